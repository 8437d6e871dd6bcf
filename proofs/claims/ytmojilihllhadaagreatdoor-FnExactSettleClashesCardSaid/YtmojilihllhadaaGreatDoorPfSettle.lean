/- Clashes settled: both ways make the same. -/
import Derived.Test.YtmojilihllhadaaGreatDoorPfClash
import Derived.Test.YtmojilihllhadaaGreatDoorPfFiles
import Derived.Test.YtmojilihllhadaaGreatDoorPfTf
set_option linter.unusedVariables false
set_option linter.unusedSimpArgs false
namespace Go.Proofs.YtmojilihllhadaaGreatDoor.Ev
open Go

/-! #### what was worked out -/
def wt (ws : List T_Work.den) (p : ByteArray) : T_TextResult.den := (ws.find? fun w => decide (w.1 = p)).elim ((4 : Int), noS, ()) fun w => ((0 : Int), w.2)
theorem spec_wt (ws : List T_Work.den) (hl : ws.length ≤ 1048576) (p : ByteArray) : spec_WorkText.s ws p = some (wt ws p) := by
  rw [spec_WorkText.e]
  have := row_first0 (t := T_Work) (L := fun i => spec_WorkText_L2.s ws p i 0 noS) (q := fun w => decide (w.1 = p)) (r := fun w => ((0 : Int), w.2)) (d := ((4 : Int), noS, ())) (l := ws)
    (by show spec_WorkText_L2.s ws p _ _ _ = _; rw [spec_WorkText_L2.e, if_neg (by omega)])
    (fun i hi hq => by
      show spec_WorkText_L2.s ws p _ _ _ = _
      rw [spec_WorkText_L2.e]
      simp (disch := omega) only [if_pos, Int.toNat_natCast, nth_at (t := T_Work) hi]
      rw [if_pos (of_decide_eq_true hq)])
    (fun i hi hq => by
      show spec_WorkText_L2.s ws p _ _ _ = spec_WorkText_L2.s ws p _ _ _
      conv => lhs; rw [spec_WorkText_L2.e]
      simp (disch := omega) only [if_pos, Int.toNat_natCast, nth_at (t := T_Work) hi, wrap_succ]
      rw [if_neg (of_decide_eq_false hq)])
  exact this
theorem impl_wt (ws : List T_Work.den) (hl : ws.length ≤ 1048576) (p : ByteArray) : impl_WorkText.s ws p = some (wt ws p) := by
  rw [impl_WorkText.e]
  have := row_first0 (t := T_Work) (L := fun i => impl_WorkText_L2.s p ws (ws.length : Int) i 0 noS) (q := fun w => decide (w.1 = p)) (r := fun w => ((0 : Int), w.2)) (d := ((4 : Int), noS, ())) (l := ws)
    (by show impl_WorkText_L2.s p ws _ _ _ _ = _; rw [impl_WorkText_L2.e, if_neg (by omega)])
    (fun i hi hq => by
      show impl_WorkText_L2.s p ws _ _ _ _ = _
      rw [impl_WorkText_L2.e]
      simp (disch := omega) only [if_pos, Int.toNat_natCast, nth_at (t := T_Work) hi]
      rw [if_pos (of_decide_eq_true hq)])
    (fun i hi hq => by
      show impl_WorkText_L2.s p ws _ _ _ _ = impl_WorkText_L2.s p ws _ _ _ _
      conv => lhs; rw [impl_WorkText_L2.e]
      simp (disch := omega) only [if_pos, Int.toNat_natCast, nth_at (t := T_Work) hi, wrap_succ]
      rw [if_neg (of_decide_eq_false hq)])
  exact this

/-! #### files put in by their paths -/
theorem clone_f (l : List T_File.den) (hl : l.length ≤ 1048576) : slices_Clone___impl_File_impl_File_.s l = some l := by
  rw [slices_Clone___impl_File_impl_File_.e]
  by_cases h : l.length = 0
  · have : l = [] := List.eq_nil_of_length_eq_zero h
    subst this
    rw [if_pos h]
    unfold joinO
    exact if_pos rfl
  · rw [if_neg h, if_pos (by omega), List.nil_append]
theorem impl_del (fs : List T_File.den) (hl : fs.length ≤ 1048576) (p : ByteArray) (hn : ∀ x ∈ fs, x.1 ≠ p) : slices_DeleteFunc___impl_File_impl_File_.s fs p = some fs := by
  rw [slices_DeleteFunc___impl_File_impl_File_.e, slices_IndexFunc___impl_File_impl_File_.e]
  have := row_find0 (t := T_File) (L := fun i => slices_IndexFunc___impl_File_impl_File__L2.s fs p (fs.length : Int) i) (q := fun f => decide (f.1 = p)) hl
    (by show slices_IndexFunc___impl_File_impl_File__L2.s fs p _ _ = _; rw [slices_IndexFunc___impl_File_impl_File__L2.e, if_neg (by omega)])
    (fun i hi hq => absurd (of_decide_eq_true hq) (hn _ (List.getElem_mem hi)))
    (fun i hi hq => by
      show slices_IndexFunc___impl_File_impl_File__L2.s fs p _ _ = slices_IndexFunc___impl_File_impl_File__L2.s fs p _ _
      conv => lhs; rw [slices_IndexFunc___impl_File_impl_File__L2.e]
      simp (disch := omega) only [if_pos, Int.toNat_natCast, nth_at (t := T_File) hi, wrap_succ]
      have hq : ¬ (fs[i] : T_File.den).1 = nth Ty.str [p] 0 := of_decide_eq_false hq
      exact if_neg hq)
  have h0 : slices_IndexFunc___impl_File_impl_File__L2.s fs p (fs.length : Int) 0 = _ := this
  have h1 : fs.findIdx? (fun f => decide (f.1 = p)) = none := by
    rw [List.findIdx?_eq_none_iff]
    intro x hx
    exact decide_eq_false (hn x hx)
  rw [h1] at h0
  rw [h0, Option.bind_some, if_pos rfl]
theorem impl_with (fs : List T_File.den) (hl : fs.length ≤ 1048576) (hs : SrtF fs) (f : T_File.den) (hn : ∀ x ∈ fs, x.1 ≠ f.1) (hz : ¬ zeroF f) : impl_withFile.s fs f.1 f = some (insF fs f) := by
  obtain ⟨i, h1, h2⟩ := bs_all (t := T_File) (C := impl_withFile_2.s) slices_BinarySearchFunc___impl_File_impl_File_string__L3.e (c := fun o => cmp o.1 f.1) (p := f.1) (l := fs) (fun x _ => by rw [impl_withFile_2.e, cmp_s, Option.bind_some]) (Srt.falls (t := T_File) hs f.1) hl
  have hz' : ¬ (f.1 = noS ∧ f.2.1 = 0 ∧ f.2.2.1 = noS) := hz
  have hb : slices_BinarySearchFunc___impl_File_impl_File_string_.s fs f.1 = _ := (slices_BinarySearchFunc___impl_File_impl_File_string_.e fs f.1).trans h2
  have hb : slices_BinarySearchFunc___impl_File_impl_File_string_.s fs (nth Ty.str [f.1] (nat_lit 0)) = _ := hb
  have hle := h1.le
  rw [impl_withFile.e, impl_withFile_L1.e, clone_f fs hl, Option.bind_some, impl_del fs hl f.1 hn, Option.bind_some, if_neg hz', hb, Option.bind_some, fill1, insF_at h1, Int.toNat_natCast]
  have h5 : (0 : Nat) < [f].length ∧ (0 : Int) ≤ (i : Int) ∧ (i : Int) ≤ (fs.length : Int) ∧ fs.length + [f].length < 4294967296 := ⟨by simp, by omega, by omega, by simp; omega⟩
  exact if_pos h5
/-- the reference's order, one file more -/
theorem spec_sort_in (fs : List T_File.den) (hl : fs.length ≤ 1048576) (i : Nat) (hi : i < fs.length) (m : List T_File.den) (hm : m.length ≤ 1048576) {p : Nat} (hp : At (t := T_File) (fun o => cmp o.1 (fs[i] : T_File.den).1) m p) (hn : ∀ x ∈ m, x.1 ≠ (fs[i] : T_File.den).1) :
    ∀ (q a : Nat), a = p + q → a ≤ m.length → spec_l7Sort_L6.s fs m.length (i : Int) (a : Int) m = spec_l7Sort_L3.s fs (insF m fs[i]).length ((i + 1 : Nat) : Int) (insF m fs[i])
  | 0, a, h, ha => by
    have hap : a = p := by omega
    subst hap
    have hlen : (List.take a m).length = a := by simp; omega
    have hlen2 : (List.drop a m).length = m.length - a := by simp
    have he : insF m fs[i] = List.take a m ++ [fs[i]] ++ List.drop a m := by rw [insF_at hp]; simp
    have ht : List.take (m.length - a) (List.drop a m) = List.drop a m := List.take_of_length_le (by simp)
    rw [spec_l7Sort_L6.e]
    have tail : ∀ A : Option (List T_Object.den), (if ((0 : Int) ≤ (a : Int) ∧ (a : Int) ≤ (m.length : Int)) then A else none) = A := fun A => if_pos (by omega)
    by_cases h0 : (a : Int) > 0
    · have h1 : a - 1 < m.length := by omega
      have hlo := hp.lo (a - 1) h1 (by omega)
      have hb : BLt (m[a - 1] : T_File.den).1 (fs[i] : T_File.den).1 := (blt_iff _ _).2 hlo
      rw [if_pos h0]
      simp (disch := first | omega | (simp; omega)) only [if_pos, wrap_pred, wrap_succ, Int.toNat_natCast, nth_at (t := T_File) h1, nth_at (t := T_File) hi, fill1, Nat.sub_zero, List.drop_zero, List.nil_append, ht]
      rw [if_pos (.inl hb), he]
    · rw [if_neg h0]
      simp (disch := first | omega | (simp; omega)) only [if_pos, wrap_succ, Int.toNat_natCast, nth_at (t := T_File) hi, fill1, Nat.sub_zero, List.drop_zero, List.nil_append, ht]
      rw [he]
  | q + 1, a, h, ha => by
    have h1 : a - 1 < m.length := by omega
    have hhi := hp.hi (a - 1) h1 (by omega)
    have hne := hn _ (List.getElem_mem h1)
    have hno : ¬ (BLt (m[a - 1] : T_File.den).1 (fs[i] : T_File.den).1 ∨ (m[a - 1] : T_File.den).1 = (fs[i] : T_File.den).1) := by
      rintro (h | h)
      · exact hhi ((blt_iff _ _).1 h)
      · exact hne h
    rw [spec_l7Sort_L6.e, if_pos (by omega)]
    simp (disch := omega) only [if_pos, wrap_pred, Int.toNat_natCast, nth_at (t := T_File) h1, nth_at (t := T_File) hi]
    rw [if_neg hno]
    exact spec_sort_in fs hl i hi m hm hp hn q (a - 1) (by omega) (by omega)
theorem spec_sort_loop (fs : List T_File.den) (hl : fs.length ≤ 1048576) (hn : (fs.map (·.1)).Nodup) : ∀ (q i : Nat), i + q = fs.length →
    spec_l7Sort_L3.s fs (srtF (fs.take i)).length (i : Int) (srtF (fs.take i)) = some (srtF fs)
  | 0, i, h => by
    rw [spec_l7Sort_L3.e, if_neg (by omega), List.take_of_length_le (by omega)]
  | q + 1, i, h => by
    have hi : i < fs.length := by omega
    have hnt : ((fs.take i).map (·.1)).Nodup := by
      rw [List.map_take]
      exact hn.sublist (List.take_sublist _ _)
    have hs := srtF_srt hnt
    have hne : ∀ x ∈ srtF (fs.take i), x.1 ≠ (fs[i] : T_File.den).1 := by
      intro x hx
      have hx := srtF_mem.1 hx
      obtain ⟨j, hj, rfl⟩ := List.getElem_of_mem hx
      rw [List.getElem_take]
      simp at hj
      rw [List.nodup_iff_pairwise_ne, List.pairwise_iff_getElem] at hn
      have := hn j i (by simp; omega) (by simp; omega) (by omega)
      simpa using this
    have hlen := srtF_len (fs.take i)
    have hlen2 : (fs.take i).length = i := by simp; omega
    obtain ⟨p, hp⟩ := at_srt hs (fs[i] : T_File.den).1
    have hple := hp.le
    rw [spec_l7Sort_L3.e, if_pos (by omega), spec_sort_in fs hl i hi _ (by omega) hp hne ((srtF (fs.take i)).length - p) _ (by omega) (Nat.le_refl _), ← srtF_take hi]
    exact spec_sort_loop fs hl hn q (i + 1) (by omega)
theorem spec_sort (fs : List T_File.den) (hl : fs.length ≤ 1048576) (hn : (fs.map (·.1)).Nodup) : spec_l7Sort.s fs = some (srtF fs) := by
  rw [spec_l7Sort.e]
  exact spec_sort_loop fs hl hn fs.length 0 (by omega)
end Go.Proofs.YtmojilihllhadaaGreatDoor.Ev
