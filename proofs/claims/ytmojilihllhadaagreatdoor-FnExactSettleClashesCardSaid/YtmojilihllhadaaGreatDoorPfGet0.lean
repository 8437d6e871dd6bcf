/- Stores without fault are in order; what is got out of them. -/
import Derived.Test.YtmojilihllhadaaGreatDoorPfStore
import Derived.Test.YtmojilihllhadaaGreatDoorPfSearch
set_option linter.unusedVariables false
set_option linter.unusedSimpArgs false
namespace Go.Proofs.YtmojilihllhadaaGreatDoor.Ev
open Go

/-- an object's name -/
abbrev oid (o : T_Object.den) : ByteArray := o.1
theorem okObj {o : T_Object.den} (hd : dc o.2.1 o.2.2.1 = 0) : 1 ≤ o.2.1 ∧ o.2.1 ≤ 3 ∧ tf o.2.2.1 = 0 := by
  unfold dc at hd
  split at hd
  · rename_i h; exact ⟨h.1, h.2, hd⟩
  · omega
/-- what holds of a store without fault -/
structure OkStore (l : List T_Object.den) : Prop where
  len : l.length ≤ 200
  obj : ∀ o ∈ l, dc o.2.1 o.2.2.1 = 0 ∧ idB o.2.1 o.2.2.1 = o.1
  srt : Srt (t := T_Object) oid l
theorem store_ok_loop (l : List T_Object.den) (hl : l.length ≤ 1048576) : ∀ (k i : Nat), i + k = l.length → spec_StoreFault_L4.s l i = some 0 →
    ∀ j (hj : j < l.length), i ≤ j → (dc (l[j] : T_Object.den).2.1 (l[j] : T_Object.den).2.2.1 = 0 ∧ idB (l[j] : T_Object.den).2.1 (l[j] : T_Object.den).2.2.1 = (l[j] : T_Object.den).1) ∧ (0 < j → cmp (oid (l[j - 1]'(by omega))) (oid l[j]) < 0)
  | 0, i, h, _, j, hj, hij => by omega
  | k + 1, i, h, hs, j, hj, hij => by
    have hi : i < l.length := by omega
    rw [spec_StoreFault_L4.e] at hs
    simp (disch := omega) only [if_pos, wrap_succ, spec_idOf, Option.bind_some, Int.toNat_natCast, nth_at hi] at hs
    by_cases hd : dc (l[i] : T_Object.den).2.1 (l[i] : T_Object.den).2.2.1 = 0
    · simp only [if_pos hd, if_true] at hs
      by_cases hid : idB (l[i] : T_Object.den).2.1 (l[i] : T_Object.den).2.2.1 = (l[i] : T_Object.den).1
      · simp only [if_pos hid] at hs
        by_cases h0 : (i : Int) > 0
        · simp (disch := omega) only [if_pos, wrap_pred] at hs
          split at hs
          · simp at hs
          · rename_i hlt
            have hl1 : i - 1 < l.length := by omega
            simp only [Int.toNat_natCast, nth_at hl1] at hlt
            rcases Nat.eq_or_lt_of_le hij with rfl | hlt'
            · exact ⟨⟨hd, hid⟩, fun _ => not_le hlt⟩
            · exact store_ok_loop l hl k (i + 1) (by omega) hs j hj hlt'
        · simp only [if_neg h0] at hs
          rcases Nat.eq_or_lt_of_le hij with rfl | hlt'
          · exact ⟨⟨hd, hid⟩, fun h => by omega⟩
          · exact store_ok_loop l hl k (i + 1) (by omega) hs j hj hlt'
      · simp only [if_neg hid] at hs
        simp at hs
    · simp only [if_neg hd] at hs
      exact absurd (Option.some.inj hs) hd
theorem store_ok {l : List T_Object.den} (h : storeFault l = 0) (hl : l.length ≤ 1048576) : OkStore l := by
  have hs := (storeFault_all l hl).1
  rw [h, spec_StoreFault.e] at hs
  split at hs
  · simp at hs
  · have hall := store_ok_loop l hl l.length 0 (by omega) hs
    refine ⟨by omega, fun o ho => ?_, srt_of fun i hi => ?_⟩
    · obtain ⟨j, hj, rfl⟩ := List.getElem_of_mem ho
      exact (hall j hj (Nat.zero_le _)).1
    · exact (hall (i + 1) hi (Nat.zero_le _)).2 (by omega)

theorem plc_lt {t : Ty} {key : t.den → ByteArray} {l : List t.den} {p : ByteArray} {i : Nat} (h : plc key l p = some i) : i < l.length := (List.findIdx?_eq_some_iff_getElem.1 h).1
theorem cmp_s (a b : ByteArray) : strings_Compare.s a b = some (cmp a b) := by
  rw [strings_Compare.e, bytealg_CompareString.e, Option.bind_some]; rfl
theorem impl_find_s {l : List T_Object.den} (h : OkStore l) (id : ByteArray) : ∃ i, At (t := T_Object) (fun o => cmp (oid o) id) l i ∧ impl_find.s l id = some ((i : Int), isAt (t := T_Object) (fun o => cmp (oid o) id) l i) := by
  obtain ⟨i, h1, h2⟩ := bs_all (t := T_Object) (C := impl_find_1.s) slices_BinarySearchFunc___impl_Object_impl_Object_string__L3.e (c := fun o => cmp (oid o) id) (p := id) (l := l) (fun x _ => by rw [impl_find_1.e, cmp_s, Option.bind_some]) (h.srt.falls id) (by have := h.len; omega)
  refine ⟨i, h1, ?_⟩
  rw [impl_find.e, slices_BinarySearchFunc___impl_Object_impl_Object_string_.e, h2, Option.bind_some]
theorem spec_find_s (l : List T_Object.den) (hl : l.length ≤ 1048576) (id : ByteArray) : spec_l5Find.s l id = some (match plc (t := T_Object) oid l id with | some n => (n : Int) | none => -1) := by
  rw [spec_l5Find.e]
  refine row_find0 (t := T_Object) (q := fun o => decide (oid o = id)) hl ?_ (fun i hi hq => ?_) (fun i hi hq => ?_)
  · rw [spec_l5Find_L2.e, if_neg (by omega)]
  · rw [spec_l5Find_L2.e]
    simp (disch := omega) only [if_pos, Int.toNat_natCast, nth_at hi]
    rw [if_pos (of_decide_eq_true hq)]
  · rw [spec_l5Find_L2.e]
    simp (disch := omega) only [if_pos, Int.toNat_natCast, nth_at hi, wrap_succ]
    rw [if_neg (of_decide_eq_false hq)]
end Go.Proofs.YtmojilihllhadaaGreatDoor.Ev
