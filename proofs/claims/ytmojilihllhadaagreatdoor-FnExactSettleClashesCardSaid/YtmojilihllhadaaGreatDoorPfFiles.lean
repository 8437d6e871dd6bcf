/- The faults of files: both ways tell the same. -/
import Derived.Test.YtmojilihllhadaaGreatDoorPfStage0
import Derived.Test.YtmojilihllhadaaGreatDoorPfSearch
set_option linter.unusedVariables false
set_option linter.unusedSimpArgs false
namespace Go.Proofs.YtmojilihllhadaaGreatDoor.Ev
open Go

def slB : ByteArray := ByteArray.mk #[(47 : UInt8)]
/-- is a path within a directory? -/
def inD (a b : ByteArray) : Bool := decide (a.size > b.size + 1) && ((a.extract 0 (b.size + 1)).toList == (b ++ slB).toList)
theorem inDir_all (a b : ByteArray) (hb : b.size ≤ 1048576) : spec_InDir.s a b = some (inD a b) ∧ impl_InDir.s a b = some (inD a b) := by
  have hw : IntKind.i64.wrap ((b.size : Int) + 1) = ((b.size + 1 : Nat) : Int) := wrap_succ (by omega)
  have s1 : (ByteArray.mk #[(47 : UInt8)]).size = 1 := rfl
  have e2 : (b ++ ByteArray.mk #[(47 : UInt8)]).size = b.size + 1 := by rw [ByteArray.size_append, s1]
  have es : slB = ByteArray.mk #[(47 : UInt8)] := rfl
  rw [spec_InDir.e, impl_InDir.e, hw]
  unfold inD
  rw [es]
  by_cases h : (a.size : Int) > ((b.size + 1 : Nat) : Int)
  · have h' : a.size > b.size + 1 := by omega
    simp (disch := omega) only [if_pos h, if_pos, s1, Int.toNat_natCast, strings_HasPrefix.e, stringslite_HasPrefix.e, e2, Option.bind_some, decide_eq_true h', Bool.true_and]
    refine ⟨?_, ?_⟩ <;> first | trivial | rfl
  · have h' : ¬ a.size > b.size + 1 := by omega
    rw [if_neg h, if_neg h, decide_eq_false h']
    exact ⟨rfl, rfl⟩
theorem find_any {β : Type} {q : β → Bool} (l : List β) : decide ((match l.findIdx? q with | some n => (n : Int) | none => -1) ≥ 0) = l.any q := by
  cases h : l.findIdx? q with
  | none =>
    have := List.findIdx?_eq_none_iff.1 h
    have h2 : l.any q = false := by rw [List.any_eq_false]; intro x hx; rw [this x hx]; simp
    rw [h2]; rfl
  | some n =>
    obtain ⟨h1, h2, _⟩ := List.findIdx?_eq_some_iff_getElem.1 h
    have : l.any q = true := by rw [List.any_eq_true]; exact ⟨_, List.getElem_mem h1, h2⟩
    rw [this]
    exact decide_eq_true (by show (n : Int) ≥ 0; omega)
def inAny (l : List T_File.den) (f : T_File.den) : Bool := l.any fun o => inD f.1 o.1
theorem impl_any (l : List T_File.den) (hl : l.length ≤ 1048576) (hp : ∀ e ∈ l, (e.1 : ByteArray).size ≤ 1048576) (c : T_File.den) : slices_ContainsFunc___impl_File_impl_File_.s l c = some (inAny l c) := by
  rw [slices_ContainsFunc___impl_File_impl_File_.e, slices_IndexFunc___impl_File_impl_File__v1.e]
  have := row_find0 (t := T_File) (L := fun i => slices_IndexFunc___impl_File_impl_File__v1_L2.s l c (l.length : Int) i) (q := fun o => inD c.1 o.1) hl
    (by show slices_IndexFunc___impl_File_impl_File__v1_L2.s l c _ _ = _; rw [slices_IndexFunc___impl_File_impl_File__v1_L2.e, if_neg (by omega)])
    (fun i hi hq => by
      show slices_IndexFunc___impl_File_impl_File__v1_L2.s l c _ _ = _
      rw [slices_IndexFunc___impl_File_impl_File__v1_L2.e]
      simp (disch := omega) only [if_pos, Int.toNat_natCast, nth_at (t := T_File) hi]
      have h1 := (inDir_all c.1 (l[i] : T_File.den).1 (hp _ (List.getElem_mem hi))).2
      have h1 : impl_InDir.s (nth T_Object [c] 0).1 (l[i] : T_File.den).1 = _ := h1
      rw [h1, Option.bind_some]
      exact if_pos hq)
    (fun i hi hq => by
      show slices_IndexFunc___impl_File_impl_File__v1_L2.s l c _ _ = slices_IndexFunc___impl_File_impl_File__v1_L2.s l c _ _
      conv => lhs; rw [slices_IndexFunc___impl_File_impl_File__v1_L2.e]
      simp (disch := omega) only [if_pos, Int.toNat_natCast, nth_at (t := T_File) hi, wrap_succ]
      have h1 := (inDir_all c.1 (l[i] : T_File.den).1 (hp _ (List.getElem_mem hi))).2
      have h1 : impl_InDir.s (nth T_Object [c] 0).1 (l[i] : T_File.den).1 = _ := h1
      rw [h1, Option.bind_some]
      exact if_neg (by rw [hq]; simp))
  have h0 : slices_IndexFunc___impl_File_impl_File__v1_L2.s l c (l.length : Int) 0 = _ := this
  rw [h0, Option.bind_some]
  congr 1
  exact find_any l
theorem spec_dir_in (l : List T_File.den) (hl : l.length ≤ 1048576) (hp : ∀ e ∈ l, (e.1 : ByteArray).size ≤ 1048576) (i : Nat) (hi : i < l.length) : ∀ (m k : Nat), k + m = l.length →
    spec_FilesFault_L18.s l (i : Int) (k : Int) = if ((l.drop k).any fun o => inD (l[i] : T_File.den).1 o.1) = true then some 7 else spec_FilesFault_L15.s l ((i + 1 : Nat) : Int)
  | 0, k, h => by
    rw [spec_FilesFault_L18.e, if_neg (by omega), List.drop_eq_nil_of_le (by omega), wrap_succ (by omega)]; rfl
  | m + 1, k, h => by
    have hk : k < l.length := by omega
    rw [spec_FilesFault_L18.e]
    simp (disch := omega) only [if_pos, Int.toNat_natCast, nth_at (t := T_File) hi, nth_at (t := T_File) hk, wrap_succ, (inDir_all (l[i] : T_File.den).1 (l[k] : T_File.den).1 (hp _ (List.getElem_mem hk))).1, Option.bind_some]
    rw [List.drop_eq_getElem_cons hk, List.any_cons, spec_dir_in l hl hp i hi m (k + 1) (by omega)]
    cases inD (l[i] : T_File.den).1 (l[k] : T_File.den).1 <;> rfl
theorem dirs_all (l : List T_File.den) (hl : l.length ≤ 1048576) (hp : ∀ e ∈ l, (e.1 : ByteArray).size ≤ 1048576) : ∀ (m i : Nat), i + m = l.length →
    ∃ r, spec_FilesFault_L15.s l (i : Int) = some r ∧ impl_FilesFault_L14.s l l (l.length : Int) (i : Int) = some r
  | 0, i, h => ⟨0, by rw [spec_FilesFault_L15.e, if_neg (by omega)], by rw [impl_FilesFault_L14.e, if_neg (by omega)]⟩
  | m + 1, i, h => by
    have hi : i < l.length := by omega
    have h1 := spec_dir_in l hl hp i hi l.length 0 (by omega)
    have h1 : spec_FilesFault_L18.s l (i : Int) 0 = _ := h1
    rw [List.drop_zero] at h1
    rw [spec_FilesFault_L15.e, impl_FilesFault_L14.e, if_pos (by omega), if_pos (by omega), if_pos (by omega), h1, impl_FilesFault_L16.e, Int.toNat_natCast, nth_at (t := T_File) hi]
    have h2 := impl_any l hl hp l[i]
    have h2 : slices_ContainsFunc___impl_File_impl_File_.s l ((l[i] : T_File.den).1, (l[i] : T_File.den).2.1, (l[i] : T_File.den).2.2.1, ()) = _ := h2
    rw [h2, Option.bind_some, wrap_succ (by omega)]
    unfold inAny
    cases l.any fun o => inD (l[i] : T_File.den).1 o.1
    · exact dirs_all l hl hp m (i + 1) (by omega)
    · exact ⟨_, rfl, rfl⟩
theorem files_loop (l : List T_File.den) (hl : l.length ≤ 1048576) (hp : ∀ e ∈ l, (e.1 : ByteArray).size ≤ 1048576) : ∀ (m i : Nat), i + m = l.length →
    ∃ r, spec_FilesFault_L4.s l (i : Int) = some r ∧ impl_FilesFault_L4.s l l (l.length : Int) (i : Int) = some r
  | 0, i, h => by
    obtain ⟨r, h1, h2⟩ := dirs_all l hl hp l.length 0 (by omega)
    exact ⟨r, by rw [spec_FilesFault_L4.e, if_neg (by omega)]; exact h1, by rw [impl_FilesFault_L4.e, if_neg (by omega)]; exact h2⟩
  | m + 1, i, h => by
    have hi : i < l.length := by omega
    have hsz := hp _ (List.getElem_mem hi)
    have hib : i < 4611686018427387904 := by omega
    have c1 : ((i : Nat) : Int) < (l.length : Int) := by omega
    have c2 : 0 ≤ ((i : Nat) : Int) ∧ ((i : Nat) : Int) < (l.length : Int) := by omega
    have rec_ := files_loop l hl hp m (i + 1) (by omega)
    rw [spec_FilesFault_L4.e, impl_FilesFault_L4.e, if_pos c1, if_pos c2, if_pos c1, if_pos c2]
    simp only [Int.toNat_natCast, nth_at (t := T_File) hi, wrap_succ hib, spec_pf _ hsz, impl_pf _ hsz, Option.bind_some, impl_m, spec_isB, impl_isB]
    have hpc := pf_cases (l[i] : T_File.den).1
    by_cases h1 : pf (l[i] : T_File.den).1 = 0
    rotate_left
    · rw [if_neg h1, if_neg h1]
      exact ⟨_, rfl, by congr 1; omega⟩
    rw [if_pos h1, if_pos h1]
    have tail : ∀ A : Option Int, ∃ r, A = some r → True := fun _ => ⟨0, fun _ => trivial⟩
    by_cases h3 : isM (l[i] : T_File.den).2.1 = true
    rotate_left
    · rw [if_neg h3]
      have hne : ¬ ((l[i] : T_File.den).2.1 = 1 ∨ (l[i] : T_File.den).2.1 = 2) := fun e => h3 (decide_eq_true e)
      rw [if_neg (fun e => hne (.inl e)), if_neg (fun e => hne (.inr e))]
      exact ⟨_, rfl, rfl⟩
    rw [if_pos h3]
    have hm := of_decide_eq_true h3
    by_cases h4 : isB (l[i] : T_File.den).2.2.1 = true
    rotate_left
    · refine ⟨1, ?_, by rw [if_neg h4]⟩
      rw [if_neg h4]
      rcases hm with hm | hm
      · rw [if_pos hm]
      · rw [if_neg (fun e => by rw [e] at hm; cases hm), if_pos hm]
    simp only [if_pos h4]
    have e1 : ∀ (A : Option Int), (if (l[i] : T_File.den).2.1 = 1 then A else if (l[i] : T_File.den).2.1 = 2 then A else some 3) = A := by
      intro A
      rcases hm with hm | hm
      · rw [if_pos hm]
      · rw [if_neg (fun e => by rw [e] at hm; cases hm), if_pos hm]
    rw [e1]
    by_cases h0 : (i : Int) > 0
    rotate_left
    · rw [if_neg h0, if_neg h0]; exact rec_
    have hi1 : i - 1 < l.length := by omega
    rw [if_pos h0, if_pos h0]
    simp (disch := omega) only [if_pos, wrap_pred, Int.toNat_natCast, nth_at (t := T_File) hi1]
    split
    · exact ⟨_, rfl, rfl⟩
    · exact rec_
theorem filesFault_all (l : List T_File.den) (hl : l.length ≤ 1048576) (hp : ∀ e ∈ l, (e.1 : ByteArray).size ≤ 1048576) : ∃ r, spec_FilesFault.s l = some r ∧ impl_FilesFault.s l = some r := by
  rw [spec_FilesFault.e, impl_FilesFault.e]
  by_cases h : (l.length : Int) > 60
  · rw [if_pos h, if_pos h]; exact ⟨_, rfl, rfl⟩
  · rw [if_neg h, if_neg h]
    exact files_loop l hl hp l.length 0 (by omega)
end Go.Proofs.YtmojilihllhadaaGreatDoor.Ev
