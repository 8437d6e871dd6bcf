/- What is left to prove of the law FnExactMergeKind: a statement about numbers, texts and lists. Written by a program of mine (mkrow.py). -/
import Derived.Test.YtjklgmflillagaaPr3
import Derived.Test.YtjklgmflillagaaOp
namespace Go.Proofs.Ytjklgmflillagaa.fnExactMergeKindRow
open Go.RowKit Go.Proofs.YtjklgmflillagaaW.PrintWords Go.Proofs.YtjklgmflillagaaW.PrintLast Go.Proofs.Ytjklgmflillagaa.Pr Go.Proofs.Ytjklgmflillagaa.Op
def Pure : Prop := ∀ (p0_0 : ByteArray) (p0_1 : Int) (p0_2 : ByteArray) (p1_0 : ByteArray) (p1_1 : Int) (p1_2 : ByteArray) (p2_0 : ByteArray) (p2_1 : Int) (p2_2 : ByteArray), (p0_0.size ≤ maxLen) → ((Lit.int .i64 p0_1).wf = true) → (p0_2.size ≤ maxLen) → (p1_0.size ≤ maxLen) → ((Lit.int .i64 p1_1).wf = true) → (p1_2.size ≤ maxLen) → (p2_0.size ≤ maxLen) → ((Lit.int .i64 p2_1).wf = true) → (p2_2.size ≤ maxLen) → ∃ k, laws_FnExactMergeKind.f k p0_0 p0_1 p0_2 p1_0 p1_1 p1_2 p2_0 p2_1 p2_2 = some true
end Go.Proofs.Ytjklgmflillagaa.fnExactMergeKindRow
