/- What is left to prove of the law FnExactWorkText: a statement about numbers, texts and lists. Written by a program of mine (mkrow.py). -/
import Derived.Test.YtjklgmflillagaaPFnExactWorkTextx
import Derived.Test.YtjklgmflillagaaOp
namespace Go.Proofs.Ytjklgmflillagaa.fnExactWorkTextRow
open Go.RowKit Go.Proofs.YtjklgmflillagaaW.PrintWords Go.Proofs.YtjklgmflillagaaW.PrintLast Go.Proofs.Ytjklgmflillagaa.PFnExactWorkText Go.Proofs.Ytjklgmflillagaa.Op
def good65 (x : S65) : Prop := x.f0.size ≤ maxLen ∧ x.f1.size ≤ maxLen
theorem op65 : Opens Try.prog 65 k65 good65 := opens_iso (opens_struct Try.underlying65 (by kernel_rfl) (opensF_cons (opens_string Try.underlying9) rfl (by kernel_rfl) (opensF_last (opens_string Try.underlying9) rfl (by kernel_rfl)))) (fun a => ⟨⟨a.1, a.2⟩, rfl⟩)
def Pure : Prop := ∀ (p0 : List (S65)) (p1 : ByteArray), (p0.length ≤ 9223372036854775807) → (∀ y ∈ p0, good65 y) → (p1.size ≤ maxLen) → ∃ k, laws_FnExactWorkText.f k p0 p1 = some true
end Go.Proofs.Ytjklgmflillagaa.fnExactWorkTextRow
