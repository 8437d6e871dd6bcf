/- Digests: both ways count the same. -/
import Derived.Test.YtmojilihllhadaaGreatDoorPfOrd
import Derived.Test.YtmojilihllhadaaGreatDoorPfDig0
set_option linter.unusedVariables false
set_option linter.unusedSimpArgs false
namespace Go.Proofs.YtmojilihllhadaaGreatDoor.Ev
open Go

/-! #### digests -/
theorem byteAt_bd (s : ByteArray) (i : Nat) : 0 ≤ byteAt s i ∧ byteAt s i ≤ 255 := by
  unfold byteAt
  have := (s.data.toList.getD i 0).toNat_lt
  omega
theorem digest_loop (s : ByteArray) (hs : s.size ≤ 4000000000) : ∀ (k i : Nat) (h : Int), i + k = s.size → 0 ≤ h → h < 65521 →
    ∃ v, 0 ≤ v ∧ v < 65521 ∧ spec_DigestOf_L3.s s h i = some v ∧ impl_DigestOf_L3.s s h s.size i = some v
  | 0, i, h, hi, h0, h1 => ⟨h, h0, h1, by rw [spec_DigestOf_L3.e, if_neg (by omega)], by rw [impl_DigestOf_L3.e, if_neg (by omega)]⟩
  | k + 1, i, h, hi, h0, h1 => by
    have hb := byteAt_bd s i
    have e : (IntKind.i64.wrap (IntKind.i64.wrap (h * (131 : Int)) + IntKind.i64.wrap (byteAt s i))).tmod (65521 : Int) = (h * 131 + byteAt s i) % 65521 := by
      rw [wrap_id (x := h * 131) (by omega) (by omega), wrap_id (x := byteAt s i) (by omega) (by omega), wrap_id (by omega) (by omega), Int.tmod_eq_emod_of_nonneg (by omega)]
    obtain ⟨v, v0, v1, q1, q2⟩ := digest_loop s hs k (i + 1) ((h * 131 + byteAt s i) % 65521) (by omega) (by omega) (by omega)
    refine ⟨v, v0, v1, ?_, ?_⟩
    · rw [spec_DigestOf_L3.e, if_pos (by omega), if_pos (by omega), wrap_succ (by omega), Int.toNat_natCast, e]; exact q1
    · rw [impl_DigestOf_L3.e, if_pos (by omega), if_pos (by omega), wrap_succ (by omega), Int.toNat_natCast, e]; exact q2
noncomputable def digest (s : ByteArray) : Int := (spec_DigestOf.s s).getD 0
theorem digest_all (s : ByteArray) (hs : s.size ≤ 4000000000) : spec_DigestOf.s s = some (digest s) ∧ impl_DigestOf.s s = some (digest s) ∧ 0 ≤ digest s ∧ digest s < 65521 := by
  obtain ⟨v, v0, v1, q1, q2⟩ := digest_loop s hs s.size 0 7 (by omega) (by omega) (by omega)
  have e1 : spec_DigestOf.s s = some v := by rw [spec_DigestOf.e]; exact q1
  have e : digest s = v := by unfold digest; rw [e1]; rfl
  rw [e]
  exact ⟨e1, by rw [impl_DigestOf.e]; exact q2, v0, v1⟩

end Go.Proofs.YtmojilihllhadaaGreatDoor.Ev
