/- Texts, codes: what is said of them without fuel. -/
import Derived.Test.YtmojilihllhadaaGreatDoorPfLines
set_option linter.unusedVariables false
set_option linter.unusedSimpArgs false
namespace Go.Proofs.YtmojilihllhadaaGreatDoor.Ev
open Go

theorem spec_split (s : ByteArray) (h : s.size ≤ 1048575) : spec_l1Split.s s = some (linesL s) := lim_says (says_spec_split s (by omega))
theorem impl_lines (s : ByteArray) (h : s.size ≤ 1048575) : impl_linesOf.s s = some (linesL s) := lim_says (says_linesOf s h)

def tf (s : ByteArray) : Int := if (s.size : Int) > 2000 then 2 else if ((linesL s).length : Int) > 100 then 2 else 0
theorem spec_tf (s : ByteArray) : spec_TextFault.s s = some (tf s) := by
  rw [spec_TextFault.e]; unfold tf
  by_cases h : (s.size : Int) > 2000
  · rw [if_pos h, if_pos h]
  · rw [if_neg h, if_neg h, spec_split s (by omega), Option.bind_some]
    split <;> rfl
theorem impl_tf (s : ByteArray) : impl_TextFault.s s = some (tf s) := by
  rw [impl_TextFault.e]; unfold tf
  by_cases h : (s.size : Int) > 2000
  · rw [if_pos h, if_pos h]
  · rw [if_neg h, if_neg h, impl_lines s (by omega), Option.bind_some]
    split <;> rfl
theorem tf_cases (s : ByteArray) : tf s = 0 ∨ tf s = 2 := by
  unfold tf
  split
  · exact .inr rfl
  · split
    · exact .inr rfl
    · exact .inl rfl
theorem tf_size {s : ByteArray} (h : tf s = 0) : s.size ≤ 2000 := by
  unfold tf at h
  split at h
  · omega
  · omega

/-- the first code that is not 0 -/
def fc : List Int → Int
  | [] => 0
  | a :: l => if a = 0 then fc l else a
theorem fc_cons (a : Int) (l : List Int) : fc (a :: l) = if a = 0 then fc l else a := rfl
theorem firstCode_loop (l : List Int) (hl : l.length ≤ 1048576) : ∀ (k i : Nat), i + k = l.length → impl_firstCode_L2.s l l.length i = some (fc (l.drop i))
  | 0, i, h => by rw [impl_firstCode_L2.e, if_neg (by omega), List.drop_eq_nil_of_le (by omega)]; rfl
  | k + 1, i, h => by
    have hi : i < l.length := by omega
    rw [impl_firstCode_L2.e, if_pos (by omega), if_pos (by omega), wrap_succ (by omega), firstCode_loop l hl k (i + 1) (by omega), Int.toNat_natCast, nth_at (t := .int .i64) hi, List.drop_eq_getElem_cons hi, fc_cons]
    split <;> rfl
theorem firstCode_s (l : List Int) (hl : l.length ≤ 1048576) : impl_firstCode.s l = some (fc l) := by
  rw [impl_firstCode.e]
  have := firstCode_loop l hl l.length 0 (by omega)
  simpa using this
theorem firstCode2_s (a b : Int) : impl_firstCode.s (fillElems [((0 : Nat), a), ((1 : Nat), b)] (List.replicate (2 : Nat) (0 : Int))) = some (if a = 0 then b else a) := by
  rw [show fillElems [((0 : Nat), a), ((1 : Nat), b)] (List.replicate (2 : Nat) (0 : Int)) = [a, b] from rfl, firstCode_s _ (by simp)]
  unfold fc
  by_cases h : a = 0
  · simp only [if_pos h, fc]; split <;> simp_all
  · simp only [if_neg h]
end Go.Proofs.YtmojilihllhadaaGreatDoor.Ev
