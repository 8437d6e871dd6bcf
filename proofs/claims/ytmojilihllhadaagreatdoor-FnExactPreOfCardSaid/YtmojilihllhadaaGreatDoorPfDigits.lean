/- Numbers in words; texts as bytes. -/
import Derived.Test.YtmojilihllhadaaGreatDoorPfOrd
set_option linter.unusedVariables false
set_option linter.unusedSimpArgs false
namespace Go.Proofs.YtmojilihllhadaaGreatDoor.Ev
open Go

theorem ba_append (a b : List UInt8) : ba a ++ ba b = ba (a ++ b) := by apply ba_ext; simp [ba]
theorem decB_nat (k : Nat) : decB (k : Int) = ba (Go.Lib.decDigits k) := by
  unfold decB Go.Lib.itoa
  rw [if_neg (by omega)]
  simp [ba]
theorem dig_wrap {k : Nat} (h : k < 10) : bytesStr (fillElems [((0 : Nat), IntKind.u8.wrap (IntKind.i64.wrap ((48 : Int) + (k : Int))))] (List.replicate (1 : Nat) (0 : Int))) = ba [UInt8.ofNat (48 + k)] := by
  have : k = 0 ∨ k = 1 ∨ k = 2 ∨ k = 3 ∨ k = 4 ∨ k = 5 ∨ k = 6 ∨ k = 7 ∨ k = 8 ∨ k = 9 := by omega
  rcases this with rfl | rfl | rfl | rfl | rfl | rfl | rfl | rfl | rfl | rfl <;> rfl
theorem digits_all (k : Nat) : k < 1000000 → spec_l3Digits.s (k : Int) = some (ba (Go.Lib.decDigits k)) ∧ (Go.Lib.decDigits k).length ≤ k + 1 := by
  induction k using Nat.strongRecOn with
  | _ k ih =>
    intro hk
    rw [spec_l3Digits.e, Go.Lib.decDigits]
    by_cases h : k < 10
    · rw [if_pos (by omega), dif_pos h, dig_wrap h]
      exact ⟨rfl, by simp⟩
    · rw [if_neg (by omega), dif_neg h]
      have e1 : (k : Int).tdiv 10 = ((k / 10 : Nat) : Int) := by rw [Int.tdiv_eq_ediv_of_nonneg (by omega)]; omega
      have e2 : (k : Int).tmod 10 = ((k % 10 : Nat) : Int) := by rw [Int.tmod_eq_emod_of_nonneg (by omega)]; omega
      obtain ⟨q1, q2⟩ := ih (k / 10) (by omega) (by omega)
      rw [e1, e2, wrap_nat (by omega), q1, Option.bind_some, dig_wrap (by omega), ba_append]
      refine ⟨?_, by simp; omega⟩
      rw [if_pos]
      rw [ba_size, ba_size]
      simp only [List.length_cons, List.length_nil]
      omega

theorem dec_small {k : Nat} (h : k < 10) : Go.Lib.decDigits k = [UInt8.ofNat (48 + k)] := by rw [Go.Lib.decDigits, dif_pos h]
theorem sp_sz : (ByteArray.mk #[(32 : UInt8)]).size = 1 := rfl
theorem lf_sz : (ByteArray.mk #[(10 : UInt8)]).size = 1 := rfl
theorem ap_size (a b : ByteArray) : (a ++ b).size = a.size + b.size := ByteArray.size_append
theorem dec_len5 {k : Nat} (h : k < 1000000) : (Go.Lib.decDigits k).length ≤ 1000000 := by have := (digits_all k h).2; omega
theorem strBytes_ba (T : List UInt8) : strBytes (ba T) = T.map fun b => (b.toNat : Int) := by unfold strBytes; rw [ba_toList]
theorem strBytes_app (T U : List UInt8) : strBytes (ba T) ++ strBytes (ba U) = strBytes (ba (T ++ U)) := by simp [strBytes_ba]
theorem strBytes_length (T : List UInt8) : (strBytes (ba T)).length = T.length := by simp [strBytes_ba]
theorem bytesStr_back (T : List UInt8) : bytesStr (strBytes (ba T)) = ba T := by
  unfold bytesStr
  rw [strBytes_ba, List.map_map]
  congr 2
  conv => rhs; rw [← List.map_id T]
  refine List.map_congr_left fun b _ => ?_
  simp
end Go.Proofs.YtmojilihllhadaaGreatDoor.Ev
