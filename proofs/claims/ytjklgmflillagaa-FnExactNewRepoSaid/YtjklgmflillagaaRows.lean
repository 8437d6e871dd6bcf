/-
  No cell of these rows narrows 'for every input' (looked for: loops, veiled, ifaces, maps, wideKeys, modest, calm, conditions, laid).
  DERIVED. THE GIVEN ROWS OF THIS SEAT. 4 by the template 'for every input the law returns true; each argument reads behind the call as it read before'; 0 by the template 'total and deterministic' (their statements: YtjklgmflillagaaTotals.lean).
  GIVEN WITH THE SEED: the statements are not yours to turn. If you find one false, say at which input.
  Laid BY PROGRAM, IN A SANDBOX (cutbox-rows.mjs): the forced cells as the released guide's own fill.sh prints them over the translation 45aff5453509aaf0… (all of the seat's roots in one cut). By AI agents, Wed Nov 11 2026. No macro, syntax, notation, axiom, sorry.
-/
import Derived.Test.YtjklgmflillagaaChecked
import GoSem.Claim
import GoSem.ClaimJoined
import GoSem.ClaimMapViews
import Derived.JoinedTies
import Derived.KernelRfl
namespace Go.Proofs.Ytjklgmflillagaa
/- THE CELL 'sum', in the pinned program and in every row, IS THE sha256 OF THE DUMP (.gsa) THAT YtjklgmflillagaaProg.lean LOADS. Nothing in Lean hashes anything: it is a label: what it is worth is what the hold of that sum in a sandbox is worth. -/
noncomputable def Try.pinned : Pinned := { name := "ytjklgmflillagaa", sum := "45aff5453509aaf0bf4ec5309194ca9c69b480c99c9d092d22f1b7e146b780b8", checked := Try.checked }
namespace Rows
def none {H : Type} : Left H := { results := [], args := [] }

/-- 'laws.FnExactMergeKind': WHATEVER THE INPUT: true; the input reads as it did. -/
def fnExactMergeKindSpec : ChangeSpec := { name := "fnExactMergeKind", fn := fun _ => fun
  | [d1, d2, d3] => { results := [.lit (.bool true)], args := [d1, d2, d3] }
  | _ => none }
def fnExactMergeKindRow : OpenClaim := { program := "ytjklgmflillagaa", sum := "45aff5453509aaf0bf4ec5309194ca9c69b480c99c9d092d22f1b7e146b780b8", func := "loop.example/g00172/laws.FnExactMergeKind", spec := "fnExactMergeKind", apart := false }
def FnExactMergeKindSaid : Prop := fnExactMergeKindRow.holds Try.pinned (OpenSpec.ofChange fnExactMergeKindSpec)

/-- ITS FALSE NEIGHBOUR: 'it returns false'. Refute it at one input. -/
def fnExactMergeKindWrong : ChangeSpec := { name := "fnExactMergeKind", fn := fun _ => fun
  | [d1, d2, d3] => { results := [.lit (.bool false)], args := [d1, d2, d3] }
  | _ => none }
def FnExactMergeKindWrongFalsely : Prop := fnExactMergeKindRow.holds Try.pinned (OpenSpec.ofChange fnExactMergeKindWrong)

/-- 'laws.FnExactWorkText': WHATEVER THE INPUT: true; the input reads as it did. -/
def fnExactWorkTextSpec : ChangeSpec := { name := "fnExactWorkText", fn := fun _ => fun
  | [d1, d2] => { results := [.lit (.bool true)], args := [d1, d2] }
  | _ => none }
def fnExactWorkTextRow : OpenClaim := { program := "ytjklgmflillagaa", sum := "45aff5453509aaf0bf4ec5309194ca9c69b480c99c9d092d22f1b7e146b780b8", func := "loop.example/g00172/laws.FnExactWorkText", spec := "fnExactWorkText", apart := false }
def FnExactWorkTextSaid : Prop := fnExactWorkTextRow.holds Try.pinned (OpenSpec.ofChange fnExactWorkTextSpec)

/-- ITS FALSE NEIGHBOUR: 'it returns false'. Refute it at one input. -/
def fnExactWorkTextWrong : ChangeSpec := { name := "fnExactWorkText", fn := fun _ => fun
  | [d1, d2] => { results := [.lit (.bool false)], args := [d1, d2] }
  | _ => none }
def FnExactWorkTextWrongFalsely : Prop := fnExactWorkTextRow.holds Try.pinned (OpenSpec.ofChange fnExactWorkTextWrong)

/-- 'laws.FnExactIsClean': WHATEVER THE INPUT: true; the input reads as it did. -/
def fnExactIsCleanSpec : ChangeSpec := { name := "fnExactIsClean", fn := fun _ => fun
  | [d] => { results := [.lit (.bool true)], args := [d] }
  | _ => none }
def fnExactIsCleanRow : OpenClaim := { program := "ytjklgmflillagaa", sum := "45aff5453509aaf0bf4ec5309194ca9c69b480c99c9d092d22f1b7e146b780b8", func := "loop.example/g00172/laws.FnExactIsClean", spec := "fnExactIsClean", apart := false }
def FnExactIsCleanSaid : Prop := fnExactIsCleanRow.holds Try.pinned (OpenSpec.ofChange fnExactIsCleanSpec)

/-- ITS FALSE NEIGHBOUR: 'it returns false'. Refute it at one input. -/
def fnExactIsCleanWrong : ChangeSpec := { name := "fnExactIsClean", fn := fun _ => fun
  | [d] => { results := [.lit (.bool false)], args := [d] }
  | _ => none }
def FnExactIsCleanWrongFalsely : Prop := fnExactIsCleanRow.holds Try.pinned (OpenSpec.ofChange fnExactIsCleanWrong)

/-- 'laws.FnExactNewRepo': WHATEVER THE INPUT: true; the input reads as it did. -/
def fnExactNewRepoSpec : ChangeSpec := { name := "fnExactNewRepo", fn := fun _ => fun
  | [d] => { results := [.lit (.bool true)], args := [d] }
  | _ => none }
def fnExactNewRepoRow : OpenClaim := { program := "ytjklgmflillagaa", sum := "45aff5453509aaf0bf4ec5309194ca9c69b480c99c9d092d22f1b7e146b780b8", func := "loop.example/g00172/laws.FnExactNewRepo", spec := "fnExactNewRepo", apart := false }
def FnExactNewRepoSaid : Prop := fnExactNewRepoRow.holds Try.pinned (OpenSpec.ofChange fnExactNewRepoSpec)

/-- ITS FALSE NEIGHBOUR: 'it returns false'. Refute it at one input. -/
def fnExactNewRepoWrong : ChangeSpec := { name := "fnExactNewRepo", fn := fun _ => fun
  | [d] => { results := [.lit (.bool false)], args := [d] }
  | _ => none }
def FnExactNewRepoWrongFalsely : Prop := fnExactNewRepoRow.holds Try.pinned (OpenSpec.ofChange fnExactNewRepoWrong)

/- THE SECOND FORM. 'bulk': how many values and letters a reading holds, each counted each time it is reached (what is shared counts as often as it is met; a slice's spare places count too). A statement '..UptoSaid' is the law's where the arguments, and the package variables that the reading takes, are together of bulk at most 1048576: NARROWER than '..Said'. Prove '..Said' where nothing that the law and all that it calls make is longer than what came in: it says more and counts as full. Else prove '..UptoSaid'. A law counts once. -/
mutual
def uptoBulk {H : Type} : DataW H → Nat
  | .lit (.string bytes) => bytes.length + 1
  | .lit _ => 1
  | .nil => 1
  | .ptr d => uptoBulk d + 1
  | .slice elems spare => uptoBulkAll elems + uptoBulkAll spare + 1
  | .agg parts => uptoBulkAll parts + 1
  | .iface _ d => uptoBulk d + 1
  | .map entries => uptoBulkEntries entries + 1
  | .held _ => 1
def uptoBulkAll {H : Type} : List (DataW H) → Nat
  | [] => 0
  | d :: r => uptoBulk d + uptoBulkAll r
def uptoBulkEntries {H : Type} : List (Lit × DataW H) → Nat
  | [] => 0
  | x :: r => uptoBulkEntry x + uptoBulkEntries r
def uptoBulkEntry {H : Type} : Lit × DataW H → Nat
  | (.string bytes, d) => bytes.length + uptoBulk d + 1
  | (_, d) => uptoBulk d + 1
 end
def uptoSmall : (H : Type) → List (DataW H) → Bool := fun _ ds => decide (uptoBulkAll ds ≤ 1048576)
def OpenSpec.upto (s : _root_.Go.ChangeSpec) : _root_.Go.OpenSpec := { _root_.Go.OpenSpec.ofChange s with cond := some uptoSmall }

/-- 'laws.FnExactMergeKind', WHERE WHAT IT READS IS OF BULK AT MOST 1048576: true; the input reads as it did. -/
def fnExactMergeKindUptoRow : OpenClaim := { program := "ytjklgmflillagaa", sum := "45aff5453509aaf0bf4ec5309194ca9c69b480c99c9d092d22f1b7e146b780b8", func := "loop.example/g00172/laws.FnExactMergeKind", spec := "fnExactMergeKind", apart := false, narrowed := true }
def FnExactMergeKindUptoSaid : Prop := fnExactMergeKindUptoRow.holds Try.pinned (OpenSpec.upto fnExactMergeKindSpec)

/-- 'laws.FnExactWorkText', WHERE WHAT IT READS IS OF BULK AT MOST 1048576: true; the input reads as it did. -/
def fnExactWorkTextUptoRow : OpenClaim := { program := "ytjklgmflillagaa", sum := "45aff5453509aaf0bf4ec5309194ca9c69b480c99c9d092d22f1b7e146b780b8", func := "loop.example/g00172/laws.FnExactWorkText", spec := "fnExactWorkText", apart := false, narrowed := true }
def FnExactWorkTextUptoSaid : Prop := fnExactWorkTextUptoRow.holds Try.pinned (OpenSpec.upto fnExactWorkTextSpec)

/-- 'laws.FnExactIsClean', WHERE WHAT IT READS IS OF BULK AT MOST 1048576: true; the input reads as it did. -/
def fnExactIsCleanUptoRow : OpenClaim := { program := "ytjklgmflillagaa", sum := "45aff5453509aaf0bf4ec5309194ca9c69b480c99c9d092d22f1b7e146b780b8", func := "loop.example/g00172/laws.FnExactIsClean", spec := "fnExactIsClean", apart := false, narrowed := true }
def FnExactIsCleanUptoSaid : Prop := fnExactIsCleanUptoRow.holds Try.pinned (OpenSpec.upto fnExactIsCleanSpec)

/-- 'laws.FnExactNewRepo', WHERE WHAT IT READS IS OF BULK AT MOST 1048576: true; the input reads as it did. -/
def fnExactNewRepoUptoRow : OpenClaim := { program := "ytjklgmflillagaa", sum := "45aff5453509aaf0bf4ec5309194ca9c69b480c99c9d092d22f1b7e146b780b8", func := "loop.example/g00172/laws.FnExactNewRepo", spec := "fnExactNewRepo", apart := false, narrowed := true }
def FnExactNewRepoUptoSaid : Prop := fnExactNewRepoUptoRow.holds Try.pinned (OpenSpec.upto fnExactNewRepoSpec)

end Rows
end Go.Proofs.Ytjklgmflillagaa
