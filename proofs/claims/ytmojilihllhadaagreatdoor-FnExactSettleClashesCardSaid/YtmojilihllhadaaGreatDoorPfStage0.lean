/- The files of a stage. -/
import Derived.Test.YtmojilihllhadaaGreatDoorPfRow
import Derived.Test.YtmojilihllhadaaGreatDoorPfOne
set_option linter.unusedVariables false
set_option linter.unusedSimpArgs false
namespace Go.Proofs.YtmojilihllhadaaGreatDoor.Ev
open Go

def zF : T_File.den := (noS, (0 : Int), noS, ())
/-- is there no file? -/
def zeroF (f : T_File.den) : Prop := f.1 = noS ∧ f.2.1 = 0 ∧ f.2.2.1 = noS
instance (f : T_File.den) : Decidable (zeroF f) := by unfold zeroF; infer_instance
theorem zeroF_z : zeroF zF := ⟨rfl, rfl, rfl⟩
def toF (e : T_Entry.den) : T_File.den := (e.1, e.2.2.1, e.2.2.2.1, ())
def stageL (l : List T_Entry.den) (k : Int) : List T_File.den := l.flatMap fun e => bif decide (stg e = k) then [toF e] else []
theorem spec_stage (l : List T_Entry.den) (hl : l.length ≤ 1048576) (k : Int) : spec_l10Stage.s l k = some (stageL l k) := by
  rw [spec_l10Stage.e]
  have := row_flat0 (t := T_Entry) (L := fun i m => spec_l10Stage_L3.s l k m.length i m) (l := l) (g := fun e => bif decide (stg e = k) then [toF e] else []) (fun x => one_len) (fun i hi m hm => by
    show spec_l10Stage_L3.s l k _ _ _ = spec_l10Stage_L3.s l k _ _ _
    conv => lhs; rw [spec_l10Stage_L3.e]
    simp (disch := omega) only [if_pos, Int.toNat_natCast, nth_at hi, wrap_succ, fill1, List.length_append, List.length_cons, List.length_nil]
    by_cases h : stg l[i] = k
    · rw [if_pos h, decide_eq_true h]; rfl
    · rw [if_neg h, decide_eq_false h]
      simp)
  have h0 : spec_l10Stage_L3.s l k 0 0 [] = _ := this
  rw [h0]
  show spec_l10Stage_L3.s l k _ _ _ = _
  rw [spec_l10Stage_L3.e, if_neg (by omega)]
  rfl
theorem stageL_len (l : List T_Entry.den) (k : Int) : (stageL l k).length ≤ l.length := by
  unfold stageL
  induction l with
  | nil => simp
  | cons a r ih =>
    rw [List.flatMap_cons, List.length_append, List.length_cons]
    have : (bif decide (stg a = k) then [toF a] else []).length ≤ 1 := one_len
    omega
end Go.Proofs.YtmojilihllhadaaGreatDoor.Ev
