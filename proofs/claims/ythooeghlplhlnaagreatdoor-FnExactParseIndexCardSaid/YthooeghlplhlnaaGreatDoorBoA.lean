/- The laws' own functions: measuring, copying, comparing. Written by a program of mine (boiler.py). -/
import Derived.Test.YthooeghlplhlnaaGreatDoorEqA
set_option linter.unusedVariables false
set_option linter.unusedSimpArgs false
namespace Go.Proofs.YthooeghlplhlnaaGreatDoor.Ev
open Go
theorem says_laws_eqEntry (x : T_Entry.den) (g : bulk T_Entry x ≤ 9223372036854775806) : Says (fun n => laws_eqEntry n x x) true := by
  have g : x.1.size + (0 + (0 + (x.2.2.2.1.size + (0)))) ≤ 9223372036854775806 := g
  refine Says.step (fun n => laws_eqEntry_eq n x x) ?_
  refine Says.condF (by simp) ?_
  refine Says.condF (by simp) ?_
  refine Says.condF (by simp) ?_
  refine Says.condF (by simp) ?_
  exact .now _
theorem says_laws_eqEntryS : ∀ l : List T_Entry.den, bulk (.sl T_Entry) l ≤ 9223372036854775806 → Says (fun n => laws_eqEntryS n l l) true := eq_list (t := T_Entry) says_laws_eqEntry laws_eqEntryS_eq laws_eqEntryS_L4_eq
theorem says_laws_eqEntriesResult (x : T_EntriesResult.den) (g : bulk T_EntriesResult x ≤ 9223372036854775806) : Says (fun n => laws_eqEntriesResult n x x) true := by
  have g : 0 + (0 + (bulk (.sl T_Entry) x.2.2.1 + (0))) ≤ 9223372036854775806 := g
  refine Says.step (fun n => laws_eqEntriesResult_eq n x x) ?_
  refine Says.condF (by simp) ?_
  refine Says.condF (by simp) ?_
  refine Says.bind (says_laws_eqEntryS _ (by omega)) (Says.condF rfl ?_)
  exact .now _
end Go.Proofs.YthooeghlplhlnaaGreatDoor.Ev
