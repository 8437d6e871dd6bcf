/- Numbers in words; texts as bytes. -/
import Derived.Test.YtmojilihllhadaaGreatDoorPfOrd
set_option linter.unusedVariables false
set_option linter.unusedSimpArgs false
namespace Go.Proofs.YtmojilihllhadaaGreatDoor.Ev
open Go

theorem ba_append (a b : List UInt8) : ba a ++ ba b = ba (a ++ b) := by apply ba_ext; simp [ba]
theorem decB_nat (k : Nat) : decB (k : Int) = ba (Go.Lib.decDigits k) := by
  unfold decB Go.Lib.itoa
  rw [if_neg (by omega)]
  simp [ba]
theorem dig_wrap {k : Nat} (h : k < 10) : bytesStr (fillElems [((0 : Nat), IntKind.u8.wrap (IntKind.i64.wrap ((48 : Int) + (k : Int))))] (List.replicate (1 : Nat) (0 : Int))) = ba [UInt8.ofNat (48 + k)] := by
  have : k = 0 ∨ k = 1 ∨ k = 2 ∨ k = 3 ∨ k = 4 ∨ k = 5 ∨ k = 6 ∨ k = 7 ∨ k = 8 ∨ k = 9 := by omega
  rcases this with rfl | rfl | rfl | rfl | rfl | rfl | rfl | rfl | rfl | rfl <;> rfl
theorem dec_small {k : Nat} (h : k < 10) : Go.Lib.decDigits k = [UInt8.ofNat (48 + k)] := by rw [Go.Lib.decDigits, dif_pos h]
theorem sp_sz : (ByteArray.mk #[(32 : UInt8)]).size = 1 := rfl
theorem lf_sz : (ByteArray.mk #[(10 : UInt8)]).size = 1 := rfl
theorem ap_size (a b : ByteArray) : (a ++ b).size = a.size + b.size := ByteArray.size_append
theorem strBytes_ba (T : List UInt8) : strBytes (ba T) = T.map fun b => (b.toNat : Int) := by unfold strBytes; rw [ba_toList]
theorem strBytes_app (T U : List UInt8) : strBytes (ba T) ++ strBytes (ba U) = strBytes (ba (T ++ U)) := by simp [strBytes_ba]
theorem strBytes_length (T : List UInt8) : (strBytes (ba T)).length = T.length := by simp [strBytes_ba]
theorem bytesStr_back (T : List UInt8) : bytesStr (strBytes (ba T)) = ba T := by
  unfold bytesStr
  rw [strBytes_ba, List.map_map]
  congr 2
  conv => rhs; rw [← List.map_id T]
  refine List.map_congr_left fun b _ => ?_
  simp
end Go.Proofs.YtmojilihllhadaaGreatDoor.Ev
