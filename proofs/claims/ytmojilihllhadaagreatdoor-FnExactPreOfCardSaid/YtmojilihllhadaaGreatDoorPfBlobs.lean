/- What blobs a store has. -/
import Derived.Test.YtmojilihllhadaaGreatDoorPfGet
set_option linter.unusedVariables false
set_option linter.unusedSimpArgs false
namespace Go.Proofs.YtmojilihllhadaaGreatDoor.Ev
open Go

def hasB (l : List T_Object.den) (f : List T_File.den) : Bool := f.all fun x => (getO l 1 x.2.2.1).2
theorem spec_blobs_s (l : List T_Object.den) (hl : l.length ≤ 1048576) (f : List T_File.den) (hf : f.length ≤ 1048576) : ∀ (k i : Nat), i + k = f.length → spec_l11Blobs_L2.s l f i = some ((f.drop i).all fun x => (getO l 1 x.2.2.1).2)
  | 0, i, h => by rw [spec_l11Blobs_L2.e, if_neg (by omega), List.drop_eq_nil_of_le (by omega)]; rfl
  | k + 1, i, h => by
    have hi : i < f.length := by omega
    rw [spec_l11Blobs_L2.e]
    simp (disch := omega) only [if_pos, spec_get_s l hl, Option.bind_some, Int.toNat_natCast, nth_at hi, wrap_succ, spec_blobs_s l hl f hf k (i + 1)]
    rw [List.drop_eq_getElem_cons hi, List.all_cons]
    cases hc : (getO l 1 (f[i] : T_File.den).2.2.1).2 with
    | true => simp
    | false => simp
end Go.Proofs.YtmojilihllhadaaGreatDoor.Ev
