/- The order of texts. -/
import Derived.Test.YtmojilihllhadaaGreatDoorPfBase
set_option linter.unusedVariables false
set_option linter.unusedSimpArgs false
namespace Go.Proofs.YtmojilihllhadaaGreatDoor.Ev
open Go
def cmp (a b : ByteArray) : Int := Go.Lib.compareBytes a.data.toList b.data.toList
theorem cb_trans : ∀ (a b c : List UInt8), Go.Lib.compareBytes a b < 0 → Go.Lib.compareBytes b c < 0 → Go.Lib.compareBytes a c < 0
  | [], _, [], h1, h2 => by cases ‹List UInt8› <;> simp [Go.Lib.compareBytes] at h1 h2
  | [], _, _ :: _, _, _ => by simp [Go.Lib.compareBytes]
  | _ :: _, [], _, h1, _ => by simp [Go.Lib.compareBytes] at h1
  | _ :: _, _ :: _, [], _, h2 => by simp [Go.Lib.compareBytes] at h2
  | x :: a, y :: b, z :: c, h1, h2 => by
    unfold Go.Lib.compareBytes at h1 h2 ⊢
    simp only [UInt8.lt_iff_toNat_lt] at h1 h2 ⊢
    split at h1
    · split at h2
      · rw [if_pos (by omega)]; omega
      · split at h2
        · omega
        · rw [if_pos (by omega)]; omega
    · split at h1
      · omega
      · split at h2
        · rw [if_pos (by omega)]; omega
        · split at h2
          · omega
          · rw [if_neg (by omega), if_neg (by omega)]
            exact cb_trans a b c h1 h2
theorem cb_self : ∀ (a : List UInt8), Go.Lib.compareBytes a a = 0
  | [] => rfl
  | x :: a => by
    unfold Go.Lib.compareBytes
    rw [if_neg (UInt8.lt_irrefl x), if_neg (UInt8.lt_irrefl x)]; exact cb_self a
theorem cb_zero : ∀ (a b : List UInt8), Go.Lib.compareBytes a b = 0 → a = b
  | [], [], _ => rfl
  | [], _ :: _, h => by simp [Go.Lib.compareBytes] at h
  | _ :: _, [], h => by simp [Go.Lib.compareBytes] at h
  | x :: a, y :: b, h => by
    unfold Go.Lib.compareBytes at h
    split at h
    · omega
    · split at h
      · omega
      · rename_i h1 h2
        have : x = y := by
          simp only [UInt8.lt_iff_toNat_lt] at h1 h2
          exact UInt8.toNat_inj.1 (by omega)
        rw [this, cb_zero a b h]
theorem cb_less : ∀ (a b : List UInt8), Op.bytesLess a b = decide (Go.Lib.compareBytes a b < 0)
  | [], [] => rfl
  | [], _ :: _ => by simp [Op.bytesLess, Go.Lib.compareBytes]
  | _ :: _, [] => by simp [Op.bytesLess, Go.Lib.compareBytes]
  | x :: a, y :: b => by
    have ih := cb_less a b
    unfold Op.bytesLess Go.Lib.compareBytes
    by_cases h : x < y
    · simp [h]
    · by_cases h2 : y < x
      · have hne : x ≠ y := by rintro rfl; exact UInt8.lt_irrefl x h2
        simp [h, h2, hne]
      · have : x = y := by
          simp only [UInt8.lt_iff_toNat_lt] at h h2
          exact UInt8.toNat_inj.1 (by omega)
        subst this
        simp [h, ih]
theorem cb_flip : ∀ (a b : List UInt8), ¬ Go.Lib.compareBytes a b < 0 → a ≠ b → Go.Lib.compareBytes b a < 0
  | [], [], _, h => absurd rfl h
  | [], _ :: _, h, _ => by simp [Go.Lib.compareBytes] at h
  | _ :: _, [], _, _ => by simp [Go.Lib.compareBytes]
  | x :: a, y :: b, h, hne => by
    unfold Go.Lib.compareBytes at h ⊢
    simp only [UInt8.lt_iff_toNat_lt] at h ⊢
    split at h
    · omega
    · split at h
      · rw [if_pos (by omega)]; omega
      · rw [if_neg (by omega), if_neg (by omega)]
        refine cb_flip a b h ?_
        rintro rfl
        have : x = y := UInt8.toNat_inj.1 (by omega)
        subst this
        exact hne rfl
theorem cmp_eq {a b : ByteArray} (h : cmp a b = 0) : a = b := by
  have := cb_zero _ _ h
  rw [← ba_self a, ← ba_self b, this]

theorem cmp_self (a : ByteArray) : cmp a a = 0 := cb_self _
theorem blt_iff (a b : ByteArray) : BLt a b ↔ cmp a b < 0 := by unfold BLt cmp; rw [cb_less, decide_eq_true_iff]
theorem cmp_flip {a b : ByteArray} (h : ¬ cmp a b < 0) (hne : a ≠ b) : cmp b a < 0 := cb_flip _ _ h fun e => hne (ba_ext e)
theorem cmp_trans {a b c : ByteArray} (h : cmp a b < 0) (k : cmp b c < 0) : cmp a c < 0 := cb_trans _ _ _ h k
theorem not_le {a b : ByteArray} (h : ¬ (BLt a b ∨ a = b)) : cmp b a < 0 := by
  rw [not_or, blt_iff] at h
  exact cmp_flip h.1 h.2
end Go.Proofs.YtmojilihllhadaaGreatDoor.Ev
