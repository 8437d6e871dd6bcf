/- Bytes, indices: what all the pure proofs use. -/
import Derived.Test.YtmojilihllhadaaGreatDoorBoA
import Derived.Lib.Strings
set_option linter.unusedVariables false
set_option linter.unusedSimpArgs false
namespace Go.Proofs.YtmojilihllhadaaGreatDoor.Ev
open Go

theorem wrap_succ {i : Nat} (h : i < 4611686018427387904) : IntKind.i64.wrap ((i : Int) + 1) = ((i + 1 : Nat) : Int) := by rw [wrap_id (by omega) (by omega)]; omega
theorem wrap_pred {i : Nat} (h1 : 1 ≤ i) (h : i < 4611686018427387904) : IntKind.i64.wrap ((i : Int) - 1) = ((i - 1 : Nat) : Int) := by rw [wrap_id (by omega) (by omega)]; omega
theorem wrap_nat {i : Nat} (h : i < 4611686018427387904) : IntKind.i64.wrap (i : Int) = (i : Int) := wrap_id (by omega) (by omega)

def ba (l : List UInt8) : ByteArray := ⟨l.toArray⟩
theorem ba_data (l : List UInt8) : (ba l).data.toList = l := rfl
theorem ba_self (s : ByteArray) : ba s.data.toList = s := Go.Lib.mk_data s
theorem ba_size (l : List UInt8) : (ba l).size = l.length := Go.Lib.size_eq _
theorem ba_extract (l : List UInt8) (a b : Nat) : (ba l).extract a b = ba ((l.drop a).take (b - a)) := Go.Lib.extract_eq _ a b
theorem ba_byte {l : List UInt8} {i : Nat} (h : i < l.length) : byteAt (ba l) i = ((l[i]'h).toNat : Int) := by
  simp [byteAt, ba, List.getD, h]
theorem byte_eq (b c : UInt8) : (((b.toNat : Int) == (c.toNat : Int)) = (b == c)) := by
  rw [Bool.eq_iff_iff]
  simp only [beq_iff_eq]
  constructor
  · intro h; exact UInt8.toNat_inj.1 (by omega)
  · rintro rfl; rfl
theorem ba_toList (l : List UInt8) : (ba l).toList = l := Go.Lib.toList_data _

theorem noS_toList : noS.toList = [] := ba_toList []
theorem take_set {β : Type} {a : List β} {i : Nat} (h : i < a.length) (x : β) : (a.set i x).take (i + 1) = a.take i ++ [x] := by
  rw [List.take_succ_eq_append_getElem (by simpa using h)]
  simp [List.take_set_of_le]
theorem fill1 {β : Type} (x z : β) : fillElems [((0 : Nat), x)] (List.replicate (1 : Nat) z) = [x] := rfl
end Go.Proofs.YtmojilihllhadaaGreatDoor.Ev
