/- PfPath, PfNames, PfRow, PfFiles, PfBlobs, PfBlobsI, PfBsort, PfDd, PfL7, PfTrees. -/
import Derived.Test.YtmojilihllhadaaGreatDoorPfGa
import Derived.Lib.SlTrimSet
import Derived.Test.YtmojilihllhadaaGreatDoorPfGc
import Derived.Test.YtmojilihllhadaaGreatDoorPfGd
set_option linter.unusedVariables false
set_option linter.unusedSimpArgs false
set_option linter.unusedSectionVars false
namespace Go.Proofs.YtmojilihllhadaaGreatDoor.Ev
open Go
/-! #### the parts of a path -/
def prt : List UInt8 → List UInt8 → List (List UInt8)
  | cur, [] => [cur]
  | cur, b :: r => match b == 47 with
    | true => cur :: prt [] r
    | false => prt (cur ++ [b]) r
def partsL (s : ByteArray) : List ByteArray := (prt [] s.data.toList).map ba
theorem prt_len : ∀ (l cur : List UInt8), (prt cur l).length = l.count 47 + 1
  | [], _ => rfl
  | b :: r, cur => by
    simp only [prt]
    cases hb : (b == 47) with
    | true => simp only [List.length_cons, prt_len r]; rw [List.count_cons, hb]; simp
    | false => simp only [prt_len r]; rw [List.count_cons, hb]; simp
theorem partsL_len (s : ByteArray) : (partsL s).length ≤ s.size + 1 := by
  unfold partsL
  rw [List.length_map, prt_len, Go.Lib.size_eq s]
  have := List.count_le_length (a := (47 : UInt8)) (l := s.data.toList)
  omega
theorem idx47 : ∀ (l : List UInt8), (Go.Lib.indexByte l 47 = -1 ∧ l.count 47 = 0 ∧ ∀ cur, prt cur l = [cur ++ l]) ∨
    ∃ k : Nat, Go.Lib.indexByte l 47 = (k : Int) ∧ k < l.length ∧ (∀ cur, prt cur l = (cur ++ l.take k) :: prt [] (l.drop (k + 1))) ∧ l.count 47 = (l.drop (k + 1)).count 47 + 1
  | [] => .inl ⟨rfl, rfl, fun cur => by simp [prt]⟩
  | b :: r => by
    cases hb : (b == 47) with
    | true =>
      refine .inr ⟨0, by simp [Go.Lib.indexByte, hb], by simp, fun cur => by simp [prt, hb], ?_⟩
      rw [List.count_cons, hb]; simp
    | false =>
      rcases idx47 r with ⟨h1, h2, h3⟩ | ⟨k, h1, h2, h3, h4⟩
      · refine .inl ⟨by simp [Go.Lib.indexByte, hb, h1], by rw [List.count_cons, hb, h2]; rfl, fun cur => by simp [prt, hb, h3]⟩
      · refine .inr ⟨k + 1, ?_, by simpa using h2, fun cur => by simp [prt, hb, h3], ?_⟩
        · have hne : ((k : Int) == -1) = false := by rw [beq_eq_false_iff_ne]; omega
          simp only [Go.Lib.indexByte, hb, h1, hne, Bool.false_eq_true, if_false]; omega
        · rw [List.count_cons, hb, h4]; simp
theorem byte_eq47 (c : UInt8) : ((c.toNat : Int) = 47) ↔ (c == 47) = true := by
  rw [beq_iff_eq]
  constructor
  · intro h; exact UInt8.toNat_inj.1 (by show c.toNat = 47; omega)
  · rintro rfl; rfl
theorem parts_L4 (D : List UInt8) (hD : D.length ≤ 1048576) : ∀ (k from_ i : Nat) (m : List ByteArray), i + k = D.length → from_ ≤ i → m.length ≤ i →
    spec_l7Parts_L4.s (ba D) m.length (from_ : Int) (i : Int) m = some (m ++ (prt ((D.drop from_).take (i - from_)) (D.drop i)).map ba)
  | 0, from_, i, m, hk, hf, hm => by
    have hi : i = D.length := by omega
    rw [spec_l7Parts_L4.e]
    simp (disch := omega) only [if_pos, ba_size, fill1, List.length_cons, List.length_nil, wrap_succ, Int.toNat_natCast, ba_extract]
    rw [spec_l7Parts_L4.e, if_neg (by rw [ba_size]; omega), List.drop_eq_nil_of_le (by omega : D.length ≤ i)]
    rfl
  | k + 1, from_, i, m, hk, hf, hm => by
    have hi : i < D.length := by omega
    have hcur : (D.drop from_).take (i + 1 - from_) = (D.drop from_).take (i - from_) ++ [D[i]] := by
      rw [show i + 1 - from_ = (i - from_) + 1 by omega, List.take_succ_eq_append_getElem (by simp; omega)]
      simp only [List.getElem_drop]
      congr 3
      omega
    rw [List.drop_eq_getElem_cons hi]
    simp only [prt]
    rw [spec_l7Parts_L4.e]
    simp (disch := omega) only [if_pos, if_neg, ba_size, fill1, List.length_cons, List.length_nil, wrap_succ, Int.toNat_natCast, ba_extract, ba_byte hi]
    cases hc : (D[i] == 47) with
    | true =>
      rw [if_pos ((byte_eq47 _).2 hc)]
      have := parts_L4 D hD k (i + 1) (i + 1) (m ++ [ba ((D.drop from_).take (i - from_))]) (by omega) (by omega) (by simp; omega)
      rw [this]
      simp
    | false =>
      rw [if_neg (fun h => by have := (byte_eq47 _).1 h; rw [hc] at this; cases this)]
      rw [parts_L4 D hD k from_ (i + 1) m (by omega) (by omega) (by omega), hcur]
theorem spec_parts (s : ByteArray) (h : s.size ≤ 1048576) : spec_l7Parts.s s = some (partsL s) := by
  rw [spec_l7Parts.e]
  have := parts_L4 s.data.toList (by rw [← Go.Lib.size_eq]; exact h) s.data.toList.length 0 0 [] (by omega) (by omega) (by simp)
  rw [ba_self] at this
  simpa [partsL] using this
def sl : ByteArray := ByteArray.mk #[(47 : UInt8)]
theorem sl_ne : sl ≠ noS := fun h => by
  have := congrArg ByteArray.size h
  cases this
theorem sl_size : (sl.size : Int) = 1 := rfl
theorem count_sl (l : List UInt8) : strings_Count.s (ba l) sl = some ((l.count 47 : Nat) : Int) := by
  rw [strings_Count.e, if_neg (by decide), if_pos (by decide), if_pos (by decide)]; rfl
theorem index_sl (l : List UInt8) : strings_Index.s (ba l) sl = some (Go.Lib.indexByte l 47) := by
  rw [strings_Index.e, stringslite_Index.e, if_neg (by decide)]
  by_cases h : sl = ba l
  · have hl : l = [47] := by
      have := congrArg (fun x : ByteArray => x.data.toList) h
      exact this.symm
    subst hl
    rw [if_pos h]; rfl
  · rw [if_neg h, if_pos (by decide), if_pos (by decide), stringslite_IndexByte.e]; rfl
theorem split47 : ∀ (c i : Nat) (r : List UInt8) (a : List ByteArray), i + r.length ≤ 1048577 → r.count 47 = c → a.length = i + c + 1 →
    strings_genSplit_L11.s (ba r) sl 0 ((i + c : Nat) : Int) (i + c + 1) (i : Int) a = some (a.take i ++ (prt [] r).map ba)
  | 0, i, r, a, hr, hc, ha => by
    rcases idx47 r with ⟨_, _, h3⟩ | ⟨k, _, _, _, h4⟩
    · rw [strings_genSplit_L11.e]
      simp (disch := omega) only [if_pos, if_neg, wrap_succ, Int.toNat_natCast]
      rw [List.drop_zero, Nat.sub_zero, take_set (by omega), h3]
      rfl
    · omega
  | c + 1, i, r, a, hr, hc, ha => by
    rcases idx47 r with ⟨_, h2, _⟩ | ⟨k, h1, h2, h3, h4⟩
    · omega
    · have hd : (r.drop (k + 1)).take (r.length - (k + 1)) = r.drop (k + 1) := List.take_of_length_le (by simp)
      rw [strings_genSplit_L11.e]
      simp (disch := omega) only [if_pos, if_neg, wrap_succ, Int.toNat_natCast, index_sl, Option.bind_some, h1, sl_size, ba_size, Int.add_zero, wrap_nat, ba_extract, List.drop_zero, Nat.sub_zero, hd]
      have := split47 c (i + 1) (r.drop (k + 1)) (a.set i (ba (r.take k))) (by simp; omega) (by omega) (by simp; omega)
      rw [take_set (by omega)] at this
      rw [show i + 1 + c = i + (c + 1) by omega] at this
      rw [this, h3, List.nil_append, List.map_cons]
      simp
theorem impl_split (s : ByteArray) (h : s.size ≤ 1048576) : strings_Split.s s (ByteArray.mk #[(47 : UInt8)]) = some (partsL s) := by
  show strings_Split.s s sl = _
  have hcl : s.data.toList.count 47 ≤ s.data.toList.length := List.count_le_length
  have hsz : s.size = s.data.toList.length := Go.Lib.size_eq s
  unfold partsL
  generalize hD : s.data.toList = D at hcl hsz
  have hs : s = ba D := by rw [← hD, ba_self]
  subst hs
  have hw1 : IntKind.i64.wrap (((ba D).size : Int) + 1) = ((D.length + 1 : Nat) : Int) := by rw [ba_size]; exact wrap_succ (by omega)
  have hw2 : IntKind.i64.wrap (((D.count 47 : Nat) : Int) + 1) = ((D.count 47 + 1 : Nat) : Int) := wrap_succ (by omega)
  have hif : (if ((D.length + 1 : Nat) : Int) < ((D.count 47 + 1 : Nat) : Int) then ((D.length + 1 : Nat) : Int) else ((D.count 47 + 1 : Nat) : Int)) = ((D.count 47 + 1 : Nat) : Int) := if_neg (by omega)
  rw [strings_Split.e, strings_genSplit.e, if_neg (by omega), if_neg sl_ne, if_pos (by omega), count_sl, Option.bind_some]
  simp only [hw1, hw2, hif]
  rw [if_pos (by omega)]
  have hw3 : IntKind.i64.wrap (((D.count 47 + 1 : Nat) : Int) - 1) = ((0 + D.count 47 : Nat) : Int) := by rw [wrap_pred (by omega) (by omega)]; congr 1; omega
  rw [hw3, Int.toNat_natCast, List.length_replicate]
  have := split47 (D.count 47) 0 D (List.replicate (D.count 47 + 1) noS) (by omega) rfl (by simp)
  simp only [List.take_zero, List.nil_append] at this
  rw [show 0 + D.count 47 + 1 = D.count 47 + 1 by omega] at this
  have this : strings_genSplit_L11.s (ba D) sl 0 ((0 + D.count 47 : Nat) : Int) (D.count 47 + 1) (0 : Int) (List.replicate (D.count 47 + 1) noS) = _ := this
  rw [this]; rfl
/-! #### names -/
def nbP (c : Int) : Prop := 97 ≤ c ∧ c ≤ 122 ∨ 48 ≤ c ∧ c ≤ 57 ∨ c = 46 ∨ c = 95 ∨ c = 45
instance (c : Int) : Decidable (nbP c) := by unfold nbP; infer_instance
theorem spec_nb (c : Int) : spec_l6NameByte.s c = some (decide (nbP c)) := by
  rw [spec_l6NameByte.e]
  by_cases hn : nbP c
  · rw [decide_eq_true hn]
    unfold nbP at hn
    repeat' split
    all_goals first | rfl | (exfalso; omega) | (congr 1; rw [beq_iff_eq]; omega)
  · rw [decide_eq_false hn]
    unfold nbP at hn
    repeat' split
    all_goals first | rfl | (exfalso; omega) | (congr 1; rw [beq_eq_false_iff_ne]; omega)
theorem impl_nb (xs : ByteArray) (n i : Int) (h : i < n) (h0 : 0 ≤ i ∧ i < (xs.size : Int)) : impl_NameFault_L4.s xs n i = if nbP (byteAt xs i.toNat) then impl_NameFault_L4.s xs n (IntKind.i64.wrap (i + 1)) else some 1 := by
  conv => lhs; rw [impl_NameFault_L4.e, if_pos h, if_pos h0]
  generalize byteAt xs i.toNat = c
  generalize impl_NameFault_L4.s xs n (IntKind.i64.wrap (i + 1)) = v
  by_cases hn : nbP c
  · rw [if_pos hn]
    unfold nbP at hn
    repeat' split
    all_goals first | rfl | (exfalso; omega)
  · rw [if_neg hn]
    unfold nbP at hn
    repeat' split
    all_goals first | rfl | (exfalso; omega)
theorem name_loop (s : ByteArray) (hs : s.size ≤ 1048576) : ∀ (k i : Nat), i + k = s.size → ∃ r, spec_NameFault_L4.s s i = some r ∧ impl_NameFault_L4.s s s.size i = some r
  | 0, i, h => ⟨0, by rw [spec_NameFault_L4.e, if_neg (by omega)], by rw [impl_NameFault_L4.e, if_neg (by omega)]⟩
  | k + 1, i, h => by
    rw [spec_NameFault_L4.e, if_pos (by omega), if_pos (by omega), spec_nb, Option.bind_some, impl_nb _ _ _ (by omega) (by omega), wrap_succ (by omega)]
    by_cases hn : nbP (byteAt s (i : Int).toNat)
    · rw [if_pos (decide_eq_true hn), if_pos hn]
      exact name_loop s hs k (i + 1) (by omega)
    · rw [if_neg (by simpa using hn), if_neg hn]
      exact ⟨_, rfl, rfl⟩
theorem name_ex (s : ByteArray) : ∃ r, spec_NameFault.s s = some r ∧ impl_NameFault.s s = some r := by
  rw [spec_NameFault.e, impl_NameFault.e]
  by_cases h1 : (s.size : Int) < 1
  · rw [if_pos h1, if_pos h1]; exact ⟨_, rfl, rfl⟩
  rw [if_neg h1, if_neg h1]
  by_cases h2 : (s.size : Int) > 12
  · rw [if_pos h2, if_pos h2]; exact ⟨_, rfl, rfl⟩
  rw [if_neg h2, if_neg h2]
  by_cases h3 : s = ByteArray.mk #[(46 : UInt8)]
  · rw [if_pos h3, if_pos h3]; exact ⟨_, rfl, rfl⟩
  rw [if_neg h3, if_neg h3]
  by_cases h4 : s = ByteArray.mk #[(46 : UInt8), (46 : UInt8)]
  · rw [if_pos h4, if_pos h4]; exact ⟨_, rfl, rfl⟩
  rw [if_neg h4, if_neg h4]
  exact name_loop s (by omega) s.size 0 (by omega)
noncomputable def nf (s : ByteArray) : Int := (spec_NameFault.s s).getD 0
theorem spec_nf (s : ByteArray) : spec_NameFault.s s = some (nf s) := by obtain ⟨r, h, _⟩ := name_ex s; unfold nf; rw [h]; rfl
theorem impl_nf (s : ByteArray) : impl_NameFault.s s = some (nf s) := by obtain ⟨r, h, h'⟩ := name_ex s; unfold nf; rw [h, h']; rfl
/-! #### paths -/
noncomputable def okN (l : List ByteArray) : Bool := l.all fun x => decide (nf x = 0)
theorem path_spec (l : List ByteArray) (hl : l.length ≤ 1048577) : ∀ (k i : Nat), i + k = l.length → spec_PathFault_L5.s l i = some (if okN (l.drop i) = true then 0 else 1)
  | 0, i, h => by rw [spec_PathFault_L5.e, if_neg (by omega), List.drop_eq_nil_of_le (by omega)]; rfl
  | k + 1, i, h => by
    have hi : i < l.length := by omega
    rw [spec_PathFault_L5.e]
    simp (disch := omega) only [if_pos, spec_nf, Option.bind_some, Int.toNat_natCast, nth_at (t := .str) hi, wrap_succ, path_spec l hl k (i + 1)]
    rw [List.drop_eq_getElem_cons hi]
    unfold okN
    rw [List.all_cons]
    by_cases hn : nf l[i] = 0
    · rw [if_pos hn, decide_eq_true hn, Bool.true_and]
    · rw [if_neg hn, decide_eq_false hn, Bool.false_and]; rfl
theorem path_impl (l : List ByteArray) (hl : l.length ≤ 1048577) : ∀ (k i : Nat), i + k = l.length → ∃ r, slices_IndexFunc___string_string__L2.s l l.length i = some r ∧ decide (r ≥ 0) = !okN (l.drop i)
  | 0, i, h => ⟨-1, by rw [slices_IndexFunc___string_string__L2.e, if_neg (by omega)], by rw [List.drop_eq_nil_of_le (by omega)]; rfl⟩
  | k + 1, i, h => by
    have hi : i < l.length := by omega
    obtain ⟨r, h1, h2⟩ := path_impl l hl k (i + 1) (by omega)
    rw [slices_IndexFunc___string_string__L2.e]
    simp (disch := omega) only [if_pos, impl_PathFault_1.e, impl_nf, Option.bind_some, Int.toNat_natCast, nth_at (t := .str) hi, wrap_succ]
    rw [List.drop_eq_getElem_cons hi]
    unfold okN
    rw [List.all_cons]
    by_cases hn : nf l[i] = 0
    · rw [if_neg (by simpa using hn), decide_eq_true hn, Bool.true_and]
      exact ⟨r, h1, h2⟩
    · rw [if_pos (by simpa using hn), decide_eq_false hn, Bool.false_and]
      exact ⟨_, rfl, by simp⟩
noncomputable def pf (s : ByteArray) : Int := if ((partsL s).length : Int) > 4 then 1 else if okN (partsL s) = true then 0 else 1
theorem spec_pf (s : ByteArray) (h : s.size ≤ 1048576) : spec_PathFault.s s = some (pf s) := by
  rw [spec_PathFault.e, spec_parts s h, Option.bind_some]
  have hl := partsL_len s
  unfold pf
  have := path_spec (partsL s) (by omega) (partsL s).length 0 (by omega)
  rw [show (0 : Int) = ((0 : Nat) : Int) from rfl, this, List.drop_zero]
  split <;> rfl
theorem impl_pf (s : ByteArray) (h : s.size ≤ 1048576) : impl_PathFault.s s = some (pf s) := by
  rw [impl_PathFault.e, impl_split s h, Option.bind_some]
  have hl := partsL_len s
  obtain ⟨r, h1, h2⟩ := path_impl (partsL s) (by omega) (partsL s).length 0 (by omega)
  have h1 : slices_IndexFunc___string_string__L2.s (partsL s) (partsL s).length (0 : Int) = some r := h1
  rw [slices_ContainsFunc___string_string_.e, slices_IndexFunc___string_string_.e, h1, Option.bind_some, Option.bind_some, h2, List.drop_zero]
  unfold pf
  cases okN (partsL s) <;> (simp only [Bool.not_true, Bool.not_false, if_true, Bool.false_eq_true, if_false]; split <;> rfl)
theorem pf_cases (s : ByteArray) : pf s = 0 ∨ pf s = 1 := by
  unfold pf
  split
  · exact .inr rfl
  · split
    · exact .inl rfl
    · exact .inr rfl
/-! #### names of objects -/
def hxP (c : Int) : Prop := 48 ≤ c ∧ c ≤ 57 ∨ 97 ≤ c ∧ c ≤ 102
instance (c : Int) : Decidable (hxP c) := by unfold hxP; infer_instance
def hx (b : UInt8) : Bool := decide (hxP (b.toNat : Int))
theorem id_step (s : ByteArray) (i : Int) (h : i < 5) (h0 : 0 ≤ i ∧ i < (s.size : Int)) : spec_IsId_L4.s s i = if hxP (byteAt s i.toNat) then spec_IsId_L4.s s (IntKind.i64.wrap (i + 1)) else some false := by
  conv => lhs; rw [spec_IsId_L4.e, if_pos h, if_pos h0]
  generalize byteAt s i.toNat = c
  generalize spec_IsId_L4.s s (IntKind.i64.wrap (i + 1)) = v
  by_cases hn : hxP c
  · rw [if_pos hn]
    unfold hxP at hn
    repeat' split
    all_goals first | rfl | (exfalso; omega)
  · rw [if_neg hn]
    unfold hxP at hn
    repeat' split
    all_goals first | rfl | (exfalso; omega)
theorem id_loop (D : List UInt8) (hD : D.length = 5) : ∀ (k i : Nat), i + k = 5 → spec_IsId_L4.s (ba D) i = some ((D.drop i).all hx)
  | 0, i, h => by rw [spec_IsId_L4.e, if_neg (by omega), List.drop_eq_nil_of_le (by omega)]; rfl
  | k + 1, i, h => by
    have hi : i < D.length := by omega
    rw [id_step _ _ (by omega) (by rw [ba_size]; omega), wrap_succ (by omega), id_loop D hD k (i + 1) (by omega), Int.toNat_natCast, ba_byte hi, List.drop_eq_getElem_cons hi, List.all_cons]
    by_cases hn : hxP ((D[i].toNat : Nat) : Int)
    · rw [if_pos hn]; unfold hx; rw [decide_eq_true hn, Bool.true_and]
    · rw [if_neg hn]; unfold hx; rw [decide_eq_false hn, Bool.false_and]
def hexL : List UInt8 := [48, 49, 50, 51, 52, 53, 54, 55, 56, 57, 97, 98, 99, 100, 101, 102]
theorem hx_fin : ∀ n : _root_.Fin 256, hexL.contains (UInt8.ofNat n.val) = hx (UInt8.ofNat n.val) := by decide +kernel
theorem hx_cut (b : UInt8) : hexL.contains b = hx b := by
  have := hx_fin ⟨b.toNat, b.toNat_lt⟩
  simpa using this
theorem trim_nil (l cs : List UInt8) : Go.Lib.trimS l cs = [] ↔ (l.all fun b => cs.contains b) = true := by
  unfold Go.Lib.trimS Go.Lib.trimLeftS Go.Lib.trimRightS
  constructor
  · intro h
    have h1 : ∀ x ∈ (l.reverse.dropWhile (cs.contains ·)).reverse, cs.contains x = true := by
      intro x hx
      generalize (l.reverse.dropWhile (cs.contains ·)).reverse = m at h hx
      induction m with
      | nil => cases hx
      | cons a t ih =>
        rw [List.dropWhile_cons] at h
        split at h
        · rename_i ha
          rcases List.mem_cons.1 hx with rfl | hx
          · exact ha
          · exact ih h hx
        · cases h
    have h2 : l.reverse.dropWhile (cs.contains ·) = [] := by
      cases hd : l.reverse.dropWhile (cs.contains ·) with
      | nil => rfl
      | cons a t =>
        exfalso
        have ha := h1 a (by rw [hd]; simp)
        have hh := List.head?_dropWhile_not (cs.contains ·) l.reverse
        rw [hd] at hh
        simp only [List.head?_cons] at hh
        rw [ha] at hh
        cases hh
    have h3 : ∀ (m : List UInt8), m.dropWhile (cs.contains ·) = [] → ∀ x ∈ m, cs.contains x = true := by
      intro m
      induction m with
      | nil => intro _ x hx; cases hx
      | cons a t ih =>
        intro h x hx
        rw [List.dropWhile_cons] at h
        split at h
        · rename_i ha
          rcases List.mem_cons.1 hx with rfl | hx
          · exact ha
          · exact ih h x hx
        · cases h
    rw [List.all_eq_true]
    exact fun x hx => h3 _ h2 x (by simpa using hx)
  · intro h
    have h2 : l.reverse.dropWhile (cs.contains ·) = [] := by
      rw [List.all_eq_true] at h
      have : ∀ m : List UInt8, (∀ x ∈ m, cs.contains x = true) → m.dropWhile (cs.contains ·) = [] := by
        intro m
        induction m with
        | nil => intro _; rfl
        | cons a t ih =>
          intro h
          rw [List.dropWhile_cons, if_pos (h a (by simp))]
          exact ih fun x hx => h x (by simp [hx])
      exact this _ fun x hx => h x (by simpa using hx)
    rw [h2]; rfl
def hexC : ByteArray := ByteArray.mk #[(48 : UInt8), (49 : UInt8), (50 : UInt8), (51 : UInt8), (52 : UInt8), (53 : UInt8), (54 : UInt8), (55 : UInt8), (56 : UInt8), (57 : UInt8), (97 : UInt8), (98 : UInt8), (99 : UInt8), (100 : UInt8), (101 : UInt8), (102 : UInt8)]
theorem trim_hex (l : List UInt8) : ((trimB (ba l) hexC).toList == noS.toList) = l.all hx := by
  rw [Bool.eq_iff_iff, beq_iff_eq, noS_toList]
  have e : (trimB (ba l) hexC).toList = Go.Lib.trimS l hexL := ba_toList _
  rw [e, trim_nil]
  simp only [hx_cut]
def btc : ByteArray := ByteArray.mk #[(98 : UInt8), (116 : UInt8), (99 : UInt8)]
def isL (a : UInt8) : Bool := a == 98 || a == 116 || a == 99
theorem isL_fin : ∀ n : _root_.Fin 256, decide (Go.Lib.indexByte [98, 116, 99] (UInt8.ofNat n.val) < 0) = !isL (UInt8.ofNat n.val) := by decide +kernel
theorem isL_ix (a : UInt8) : decide (Go.Lib.indexByte [98, 116, 99] a < 0) = !isL a := by
  have := isL_fin ⟨a.toNat, a.toNat_lt⟩
  simpa using this
def isId (s : ByteArray) : Bool := s.data.toList.length == 5 && isL (s.data.toList.headD 0) && (s.data.toList.drop 1).all hx
theorem byte_eqc (b c : UInt8) : ((b.toNat : Int) = (c.toNat : Int)) ↔ b = c := by
  constructor
  · intro h; exact UInt8.toNat_inj.1 (by omega)
  · rintro rfl; rfl
theorem spec_isId (s : ByteArray) : spec_IsId.s s = some (isId s) := by
  have hsz : s.size = s.data.toList.length := Go.Lib.size_eq s
  rw [spec_IsId.e]
  unfold isId
  by_cases h5 : s.data.toList.length = 5
  · rw [if_pos (by omega)]
    generalize hD : s.data.toList = D at h5
    have hs : s = ba D := by rw [← hD, ba_self]
    subst hs
    have hlp := id_loop D h5 4 1 rfl
    have hlp : spec_IsId_L4.s (ba D) (1 : Int) = some ((D.drop 1).all hx) := hlp
    have hb : byteAt (ba D) (Int.toNat (0 : Int)) = ((D.headD 0).toNat : Int) := by
      rw [show Int.toNat (0 : Int) = 0 from rfl, ba_byte (by omega)]
      cases D with
      | nil => cases h5
      | cons a t => rfl
    have e5 : (D.length == 5) = true := by rw [h5]; rfl
    have hp : (0 : Int) ≤ 0 ∧ (0 : Int) < ((ba D).size : Int) := by rw [ba_size]; omega
    simp only [if_pos hp]
    rw [hlp, hb, e5, Bool.true_and]
    unfold isL
    generalize D.headD 0 = a
    have c1 : ((a.toNat : Int) = 98) ↔ a = 98 := byte_eqc a 98
    have c2 : ((a.toNat : Int) = 116) ↔ a = 116 := byte_eqc a 116
    have c3 : ((a.toNat : Int) = 99) ↔ a = 99 := byte_eqc a 99
    simp only [c1, c2, c3]
    by_cases a1 : a = 98
    · rw [if_pos a1, a1]; rfl
    rw [if_neg a1]
    by_cases a2 : a = 116
    · rw [if_pos a2, a2]; rfl
    rw [if_neg a2]
    by_cases a3 : a = 99
    · rw [if_pos a3, a3]; rfl
    · rw [if_neg a3, beq_eq_false_iff_ne.2 a1, beq_eq_false_iff_ne.2 a2, beq_eq_false_iff_ne.2 a3]; rfl
  · rw [if_neg (by omega), beq_eq_false_iff_ne.2 h5]; rfl
theorem impl_isId (s : ByteArray) : impl_IsId.s s = some (isId s) := by
  have hsz : s.size = s.data.toList.length := Go.Lib.size_eq s
  rw [impl_IsId.e]
  unfold isId
  by_cases h5 : s.data.toList.length = 5
  · rw [if_pos (by omega)]
    generalize hD : s.data.toList = D at h5
    have hs : s = ba D := by rw [← hD, ba_self]
    subst hs
    have hb : byteAt (ba D) (Int.toNat (0 : Int)) = ((D.headD 0).toNat : Int) := by
      rw [show Int.toNat (0 : Int) = 0 from rfl, ba_byte (by omega)]
      cases D with
      | nil => cases h5
      | cons a t => rfl
    have e5 : (D.length == 5) = true := by rw [h5]; rfl
    have ex : (ba D).extract (Int.toNat (1 : Int)) (ba D).size = ba (D.drop 1) := by
      rw [ba_size, show Int.toNat (1 : Int) = 1 from rfl, ba_extract]
      rw [List.take_of_length_le (by simp)]
    have hi : strings_IndexByte.s (ByteArray.mk #[(98 : UInt8), (116 : UInt8), (99 : UInt8)]) ((D.headD 0).toNat : Int) = some (Go.Lib.indexByte [98, 116, 99] (D.headD 0)) := by
      rw [strings_IndexByte.e, stringslite_IndexByte.e, Option.bind_some]
      congr 2
      simp
    rw [if_pos (by rw [ba_size]; omega), hb, hi, ex, e5, Bool.true_and, Option.bind_some]
    have := isL_ix (D.headD 0)
    cases hl : isL (D.headD 0) with
    | true =>
      rw [hl] at this
      rw [if_neg (by simpa using this), if_pos (by rw [ba_size]; omega), if_pos (by rw [ba_size]; simp; omega)]
      have := trim_hex (D.drop 1)
      unfold hexC at this
      rw [this, Bool.true_and]
    | false =>
      rw [hl] at this
      rw [if_pos (by simpa using this)]; rfl
  · rw [if_neg (by omega), beq_eq_false_iff_ne.2 h5]; rfl
theorem letter1 : spec_l5Letter.s 1 = some (ba [98]) := by rw [spec_l5Letter.e, if_pos (by decide), if_pos (by decide)]; rfl
theorem isOf_gen (s : ByteArray) (k : Int) (c : UInt8) (h1 : spec_l5Letter.s k = some (ba [c])) (h2 : 1 ≤ k ∧ k ≤ 3) (h3 : byteAt btc (IntKind.i64.wrap (k - 1)).toNat = (c.toNat : Int)) :
    spec_l6Is.s s k = some (isId s && s.data.toList.headD 0 == c) ∧ impl_isIdOf.s k s = some (isId s && s.data.toList.headD 0 == c) := by
  rw [spec_l6Is.e, impl_isIdOf.e, spec_isId, impl_isId, Option.bind_some, Option.bind_some]
  cases hi : isId s with
  | false => exact ⟨rfl, rfl⟩
  | true =>
    have hsz : s.size = s.data.toList.length := Go.Lib.size_eq s
    have h5 : s.data.toList.length = 5 := by
      unfold isId at hi
      simp only [Bool.and_eq_true, beq_iff_eq] at hi
      exact hi.1.1
    generalize hD : s.data.toList = D at h5
    have hs : s = ba D := by rw [← hD, ba_self]
    subst hs
    cases D with
    | nil => cases h5
    | cons a t =>
      have ht : t.length = 4 := by simpa using h5
      have hw : IntKind.i64.wrap (k - 1) = k - 1 := wrap_id (by omega) (by omega)
      have hb : byteAt (ba (a :: t)) (Int.toNat (0 : Int)) = (a.toNat : Int) := rfl
      have hx : (ba (a :: t)).extract 0 (Int.toNat (1 : Int)) = ba [a] := by
        rw [show Int.toNat (1 : Int) = 1 from rfl, ba_extract]; rfl
      have hbs : ((btc.size : Nat) : Int) = 3 := rfl
      constructor
      · rw [if_pos rfl, if_pos (by rw [ba_size, List.length_cons]; omega), h1, Option.bind_some, hx, ba_toList, ba_toList]
        simp
      · rw [if_pos rfl, if_pos (by rw [ba_size, List.length_cons]; omega), if_pos (by show _ ∧ _ < ((btc.size : Nat) : Int); rw [hbs, hw]; omega)]
        show some (_ == byteAt btc _) = _
        rw [h3, hb, byte_eq]
        simp
def isB (s : ByteArray) : Bool := isId s && s.data.toList.headD 0 == 98
theorem spec_isB (s : ByteArray) : spec_l6Is.s s 1 = some (isB s) := (isOf_gen s 1 98 letter1 (by omega) rfl).1
theorem impl_isB (s : ByteArray) : impl_isIdOf.s 1 s = some (isB s) := (isOf_gen s 1 98 letter1 (by omega) rfl).2
def isM (k : Int) : Bool := decide (k = 1 ∨ k = 2)
theorem impl_m (k : Int) : impl_isFileMode.s k = some (isM k) := by
  rw [impl_isFileMode.e]; unfold isM
  by_cases h : k = 1
  · rw [if_pos h]; congr 1; symm; exact decide_eq_true (.inl h)
  · rw [if_neg h]; congr 1; rw [Bool.eq_iff_iff, beq_iff_eq, decide_eq_true_iff]; omega
theorem row_first {t : Ty} {β : Type} {L : Int → Option β} {q : t.den → Bool} {r : t.den → β} {d : β} {l : List t.den}
    (h0 : L (l.length : Int) = some d) (h1 : ∀ (i : Nat) (hi : i < l.length), q l[i] = true → L i = some (r l[i])) (h2 : ∀ (i : Nat) (hi : i < l.length), q l[i] = false → L i = L ((i + 1 : Nat) : Int)) :
    ∀ (k i : Nat), i + k = l.length → L i = some (((l.drop i).find? q).elim d r)
  | 0, i, h => by
    have hi : i = l.length := by omega
    subst hi
    rw [h0, List.drop_length]; rfl
  | k + 1, i, h => by
    have hi : i < l.length := by omega
    rw [List.drop_eq_getElem_cons hi, List.find?_cons]
    cases hq : q l[i] with
    | true => rw [h1 i hi hq]; rfl
    | false => rw [h2 i hi hq]; exact row_first h0 h1 h2 k (i + 1) (by omega)
theorem row_first0 {t : Ty} {β : Type} {L : Int → Option β} {q : t.den → Bool} {r : t.den → β} {d : β} {l : List t.den}
    (h0 : L (l.length : Int) = some d) (h1 : ∀ (i : Nat) (hi : i < l.length), q l[i] = true → L i = some (r l[i])) (h2 : ∀ (i : Nat) (hi : i < l.length), q l[i] = false → L i = L ((i + 1 : Nat) : Int)) :
    L 0 = some ((l.find? q).elim d r) := by
  have := row_first h0 h1 h2 l.length 0 (by omega)
  simpa using this
def slB : ByteArray := ByteArray.mk #[(47 : UInt8)]
def inD (a b : ByteArray) : Bool := decide (a.size > b.size + 1) && ((a.extract 0 (b.size + 1)).toList == (b ++ slB).toList)
theorem inDir_all (a b : ByteArray) (hb : b.size ≤ 1048576) : spec_InDir.s a b = some (inD a b) ∧ impl_InDir.s a b = some (inD a b) := by
  have hw : IntKind.i64.wrap ((b.size : Int) + 1) = ((b.size + 1 : Nat) : Int) := wrap_succ (by omega)
  have s1 : (ByteArray.mk #[(47 : UInt8)]).size = 1 := rfl
  have e2 : (b ++ ByteArray.mk #[(47 : UInt8)]).size = b.size + 1 := by rw [ByteArray.size_append, s1]
  have es : slB = ByteArray.mk #[(47 : UInt8)] := rfl
  rw [spec_InDir.e, impl_InDir.e, hw]
  unfold inD
  rw [es]
  by_cases h : (a.size : Int) > ((b.size + 1 : Nat) : Int)
  · have h' : a.size > b.size + 1 := by omega
    simp (disch := omega) only [if_pos h, if_pos, s1, Int.toNat_natCast, strings_HasPrefix.e, stringslite_HasPrefix.e, e2, Option.bind_some, decide_eq_true h', Bool.true_and]
    refine ⟨?_, ?_⟩ <;> first | trivial | rfl
  · have h' : ¬ a.size > b.size + 1 := by omega
    rw [if_neg h, if_neg h, decide_eq_false h']
    exact ⟨rfl, rfl⟩
theorem find_any {β : Type} {q : β → Bool} (l : List β) : decide ((match l.findIdx? q with | some n => (n : Int) | none => -1) ≥ 0) = l.any q := by
  cases h : l.findIdx? q with
  | none =>
    have := List.findIdx?_eq_none_iff.1 h
    have h2 : l.any q = false := by rw [List.any_eq_false]; intro x hx; rw [this x hx]; simp
    rw [h2]; rfl
  | some n =>
    obtain ⟨h1, h2, _⟩ := List.findIdx?_eq_some_iff_getElem.1 h
    have : l.any q = true := by rw [List.any_eq_true]; exact ⟨_, List.getElem_mem h1, h2⟩
    rw [this]
    exact decide_eq_true (by show (n : Int) ≥ 0; omega)
def inAny (l : List T_File.den) (f : T_File.den) : Bool := l.any fun o => inD f.1 o.1
theorem impl_any (l : List T_File.den) (hl : l.length ≤ 1048576) (hp : ∀ e ∈ l, (e.1 : ByteArray).size ≤ 1048576) (c : T_File.den) : slices_ContainsFunc___impl_File_impl_File_.s l c = some (inAny l c) := by
  rw [slices_ContainsFunc___impl_File_impl_File_.e, slices_IndexFunc___impl_File_impl_File_.e]
  have := row_find0 (t := T_File) (L := fun i => slices_IndexFunc___impl_File_impl_File__L2.s l c (l.length : Int) i) (q := fun o => inD c.1 o.1) hl
    (by show slices_IndexFunc___impl_File_impl_File__L2.s l c _ _ = _; rw [slices_IndexFunc___impl_File_impl_File__L2.e, if_neg (by omega)])
    (fun i hi hq => by
      show slices_IndexFunc___impl_File_impl_File__L2.s l c _ _ = _
      rw [slices_IndexFunc___impl_File_impl_File__L2.e]
      simp (disch := omega) only [if_pos, Int.toNat_natCast, nth_at (t := T_File) hi]
      have h1 := (inDir_all c.1 (l[i] : T_File.den).1 (hp _ (List.getElem_mem hi))).2
      have h1 : impl_InDir.s (nth T_Object [c] 0).1 (l[i] : T_File.den).1 = _ := h1
      rw [h1, Option.bind_some]
      exact if_pos hq)
    (fun i hi hq => by
      show slices_IndexFunc___impl_File_impl_File__L2.s l c _ _ = slices_IndexFunc___impl_File_impl_File__L2.s l c _ _
      conv => lhs; rw [slices_IndexFunc___impl_File_impl_File__L2.e]
      simp (disch := omega) only [if_pos, Int.toNat_natCast, nth_at (t := T_File) hi, wrap_succ]
      have h1 := (inDir_all c.1 (l[i] : T_File.den).1 (hp _ (List.getElem_mem hi))).2
      have h1 : impl_InDir.s (nth T_Object [c] 0).1 (l[i] : T_File.den).1 = _ := h1
      rw [h1, Option.bind_some]
      exact if_neg (by rw [hq]; simp))
  have h0 : slices_IndexFunc___impl_File_impl_File__L2.s l c (l.length : Int) 0 = _ := this
  rw [h0, Option.bind_some]
  congr 1
  exact find_any l
theorem spec_dir_in (l : List T_File.den) (hl : l.length ≤ 1048576) (hp : ∀ e ∈ l, (e.1 : ByteArray).size ≤ 1048576) (i : Nat) (hi : i < l.length) : ∀ (m k : Nat), k + m = l.length →
    spec_FilesFault_L18.s l (i : Int) (k : Int) = if ((l.drop k).any fun o => inD (l[i] : T_File.den).1 o.1) = true then some 7 else spec_FilesFault_L15.s l ((i + 1 : Nat) : Int)
  | 0, k, h => by
    rw [spec_FilesFault_L18.e, if_neg (by omega), List.drop_eq_nil_of_le (by omega), wrap_succ (by omega)]; rfl
  | m + 1, k, h => by
    have hk : k < l.length := by omega
    rw [spec_FilesFault_L18.e]
    simp (disch := omega) only [if_pos, Int.toNat_natCast, nth_at (t := T_File) hi, nth_at (t := T_File) hk, wrap_succ, (inDir_all (l[i] : T_File.den).1 (l[k] : T_File.den).1 (hp _ (List.getElem_mem hk))).1, Option.bind_some]
    rw [List.drop_eq_getElem_cons hk, List.any_cons, spec_dir_in l hl hp i hi m (k + 1) (by omega)]
    cases inD (l[i] : T_File.den).1 (l[k] : T_File.den).1 <;> rfl
theorem dirs_all (l : List T_File.den) (hl : l.length ≤ 1048576) (hp : ∀ e ∈ l, (e.1 : ByteArray).size ≤ 1048576) : ∀ (m i : Nat), i + m = l.length →
    ∃ r, spec_FilesFault_L15.s l (i : Int) = some r ∧ impl_FilesFault_L14.s l l (l.length : Int) (i : Int) = some r
  | 0, i, h => ⟨0, by rw [spec_FilesFault_L15.e, if_neg (by omega)], by rw [impl_FilesFault_L14.e, if_neg (by omega)]⟩
  | m + 1, i, h => by
    have hi : i < l.length := by omega
    have h1 := spec_dir_in l hl hp i hi l.length 0 (by omega)
    have h1 : spec_FilesFault_L18.s l (i : Int) 0 = _ := h1
    rw [List.drop_zero] at h1
    rw [spec_FilesFault_L15.e, impl_FilesFault_L14.e, if_pos (by omega), if_pos (by omega), if_pos (by omega), h1, impl_FilesFault_L16.e, Int.toNat_natCast, nth_at (t := T_File) hi]
    have h2 := impl_any l hl hp l[i]
    have h2 : slices_ContainsFunc___impl_File_impl_File_.s l ((l[i] : T_File.den).1, (l[i] : T_File.den).2.1, (l[i] : T_File.den).2.2.1, ()) = _ := h2
    rw [h2, Option.bind_some, wrap_succ (by omega)]
    unfold inAny
    cases l.any fun o => inD (l[i] : T_File.den).1 o.1
    · exact dirs_all l hl hp m (i + 1) (by omega)
    · exact ⟨_, rfl, rfl⟩
theorem files_loop (l : List T_File.den) (hl : l.length ≤ 1048576) (hp : ∀ e ∈ l, (e.1 : ByteArray).size ≤ 1048576) : ∀ (m i : Nat), i + m = l.length →
    ∃ r, spec_FilesFault_L4.s l (i : Int) = some r ∧ impl_FilesFault_L4.s l l (l.length : Int) (i : Int) = some r
  | 0, i, h => by
    obtain ⟨r, h1, h2⟩ := dirs_all l hl hp l.length 0 (by omega)
    exact ⟨r, by rw [spec_FilesFault_L4.e, if_neg (by omega)]; exact h1, by rw [impl_FilesFault_L4.e, if_neg (by omega)]; exact h2⟩
  | m + 1, i, h => by
    have hi : i < l.length := by omega
    have hsz := hp _ (List.getElem_mem hi)
    have hib : i < 4611686018427387904 := by omega
    have c1 : ((i : Nat) : Int) < (l.length : Int) := by omega
    have c2 : 0 ≤ ((i : Nat) : Int) ∧ ((i : Nat) : Int) < (l.length : Int) := by omega
    have rec_ := files_loop l hl hp m (i + 1) (by omega)
    rw [spec_FilesFault_L4.e, impl_FilesFault_L4.e, if_pos c1, if_pos c2, if_pos c1, if_pos c2]
    simp only [Int.toNat_natCast, nth_at (t := T_File) hi, wrap_succ hib, spec_pf _ hsz, impl_pf _ hsz, Option.bind_some, impl_m, spec_isB, impl_isB]
    have hpc := pf_cases (l[i] : T_File.den).1
    by_cases h1 : pf (l[i] : T_File.den).1 = 0
    rotate_left
    · rw [if_neg h1, if_neg h1]
      exact ⟨_, rfl, by congr 1; omega⟩
    rw [if_pos h1, if_pos h1]
    have tail : ∀ A : Option Int, ∃ r, A = some r → True := fun _ => ⟨0, fun _ => trivial⟩
    by_cases h3 : isM (l[i] : T_File.den).2.1 = true
    rotate_left
    · rw [if_neg h3]
      have hne : ¬ ((l[i] : T_File.den).2.1 = 1 ∨ (l[i] : T_File.den).2.1 = 2) := fun e => h3 (decide_eq_true e)
      rw [if_neg (fun e => hne (.inl e)), if_neg (fun e => hne (.inr e))]
      exact ⟨_, rfl, rfl⟩
    rw [if_pos h3]
    have hm := of_decide_eq_true h3
    by_cases h4 : isB (l[i] : T_File.den).2.2.1 = true
    rotate_left
    · refine ⟨1, ?_, by rw [if_neg h4]⟩
      rw [if_neg h4]
      rcases hm with hm | hm
      · rw [if_pos hm]
      · rw [if_neg (fun e => by rw [e] at hm; cases hm), if_pos hm]
    simp only [if_pos h4]
    have e1 : ∀ (A : Option Int), (if (l[i] : T_File.den).2.1 = 1 then A else if (l[i] : T_File.den).2.1 = 2 then A else some 3) = A := by
      intro A
      rcases hm with hm | hm
      · rw [if_pos hm]
      · rw [if_neg (fun e => by rw [e] at hm; cases hm), if_pos hm]
    rw [e1]
    by_cases h0 : (i : Int) > 0
    rotate_left
    · rw [if_neg h0, if_neg h0]; exact rec_
    have hi1 : i - 1 < l.length := by omega
    rw [if_pos h0, if_pos h0]
    simp (disch := omega) only [if_pos, wrap_pred, Int.toNat_natCast, nth_at (t := T_File) hi1]
    split
    · exact ⟨_, rfl, rfl⟩
    · exact rec_
theorem filesFault_all (l : List T_File.den) (hl : l.length ≤ 1048576) (hp : ∀ e ∈ l, (e.1 : ByteArray).size ≤ 1048576) : ∃ r, spec_FilesFault.s l = some r ∧ impl_FilesFault.s l = some r := by
  rw [spec_FilesFault.e, impl_FilesFault.e]
  by_cases h : (l.length : Int) > 60
  · rw [if_pos h, if_pos h]; exact ⟨_, rfl, rfl⟩
  · rw [if_neg h, if_neg h]
    exact files_loop l hl hp l.length 0 (by omega)
def hasB (l : List T_Object.den) (f : List T_File.den) : Bool := f.all fun x => (getO l 1 x.2.2.1).2
theorem spec_blobs_s (l : List T_Object.den) (hl : l.length ≤ 1048576) (f : List T_File.den) (hf : f.length ≤ 1048576) : ∀ (k i : Nat), i + k = f.length → spec_l11Blobs_L2.s l f i = some ((f.drop i).all fun x => (getO l 1 x.2.2.1).2)
  | 0, i, h => by rw [spec_l11Blobs_L2.e, if_neg (by omega), List.drop_eq_nil_of_le (by omega)]; rfl
  | k + 1, i, h => by
    have hi : i < f.length := by omega
    rw [spec_l11Blobs_L2.e]
    simp (disch := omega) only [if_pos, spec_get_s l hl, Option.bind_some, Int.toNat_natCast, nth_at hi, wrap_succ, spec_blobs_s l hl f hf k (i + 1)]
    rw [List.drop_eq_getElem_cons hi, List.all_cons]
    cases hc : (getO l 1 (f[i] : T_File.den).2.2.1).2 with
    | true => simp
    | false => simp
theorem impl_blobs_s {l : List T_Object.den} (ho : OkStore l) (f : List T_File.den) (hf : f.length ≤ 1048576) : impl_hasBlobs.s l f = some (hasB l f) := by
  rw [impl_hasBlobs.e, impl_hasBlobs_L1.e, slices_ContainsFunc___impl_File_impl_File__v1.e, slices_IndexFunc___impl_File_impl_File__v1.e]
  have hn : nth (Ty.sl T_Object) [l] (nat_lit 0) = l := rfl
  have := row_find0 (t := T_File) (L := fun i => slices_IndexFunc___impl_File_impl_File__v1_L2.s f l (f.length : Int) i) (q := fun x => !(getO l 1 x.2.2.1).2) (l := f) hf
    (by show slices_IndexFunc___impl_File_impl_File__v1_L2.s f l _ _ = _; rw [slices_IndexFunc___impl_File_impl_File__v1_L2.e, if_neg (by omega)])
    (fun i hi hq => by
      show slices_IndexFunc___impl_File_impl_File__v1_L2.s f l _ _ = _
      rw [slices_IndexFunc___impl_File_impl_File__v1_L2.e, hn]
      simp (disch := omega) only [if_pos, impl_get_s ho, Option.bind_some, Int.toNat_natCast, nth_at hi]
      rw [if_neg (by simpa using hq)])
    (fun i hi hq => by
      show slices_IndexFunc___impl_File_impl_File__v1_L2.s f l _ _ = slices_IndexFunc___impl_File_impl_File__v1_L2.s f l _ _
      conv => lhs; rw [slices_IndexFunc___impl_File_impl_File__v1_L2.e, hn]
      simp (disch := omega) only [if_pos, impl_get_s ho, Option.bind_some, Int.toNat_natCast, nth_at hi, wrap_succ]
      rw [if_pos (by simpa using hq)])
  rw [this, Option.bind_some, Option.bind_some]
  congr 1
  unfold hasB
  cases hx : List.findIdx? (fun x : T_File.den => !(getO l 1 x.2.2.1).2) f with
  | none =>
    rw [List.findIdx?_eq_none_iff] at hx
    have : (f.all fun x => (getO l 1 x.2.2.1).2) = true := by
      rw [List.all_eq_true]
      intro x hm
      have := hx x hm
      simpa using this
    rw [this]; rfl
  | some i =>
    rw [List.findIdx?_eq_some_iff_getElem] at hx
    obtain ⟨hi, hq, _⟩ := hx
    have : (f.all fun x => (getO l 1 x.2.2.1).2) = false := by
      rw [List.all_eq_false]
      exact ⟨_, List.getElem_mem hi, by simpa using hq⟩
    rw [this]; simp
theorem lt_cb : ∀ (x y : List UInt8), x < y ↔ Go.Lib.compareBytes x y < 0
  | [], [] => by simp [Go.Lib.compareBytes]
  | [], b :: y => by simp [Go.Lib.compareBytes]
  | a :: x, [] => by simp [Go.Lib.compareBytes]
  | a :: x, b :: y => by
    rw [List.cons_lt_cons_iff]
    have ih := lt_cb x y
    unfold Go.Lib.compareBytes
    by_cases h : a < b
    · rw [if_pos h]; simp [h]
    · rw [if_neg h]
      by_cases h2 : b < a
      · rw [if_pos h2]
        have hne : a ≠ b := by rintro rfl; exact UInt8.lt_irrefl a h2
        simp [h, hne]
      · have hab : a = b := by
          simp only [UInt8.lt_iff_toNat_lt] at h h2
          exact UInt8.toNat_inj.1 (by omega)
        rw [if_neg h2]
        subst hab
        simp [h, ih]
theorem le_cb (x y : List UInt8) : x ≤ y ↔ ¬ Go.Lib.compareBytes y x < 0 := by
  rw [← lt_cb]
  exact Iff.rfl
def WB (l : List ByteArray) : Prop := l.Pairwise fun a b => ¬ cmp b a < 0
theorem cmp_le_trans {a b c : ByteArray} (h : ¬ cmp b a < 0) (k : ¬ cmp c b < 0) : ¬ cmp c a < 0 := fun hh => by
  by_cases e : c = b
  · subst e; exact h hh
  · exact h (cmp_trans (cmp_flip k e) hh)
theorem cmp_antisymm {a b : ByteArray} (h : ¬ cmp a b < 0) (k : ¬ cmp b a < 0) : a = b := Classical.byContradiction fun e => k (cmp_flip h e)
theorem cb_total (x y : List UInt8) : ¬ Go.Lib.compareBytes y x < 0 ∨ ¬ Go.Lib.compareBytes x y < 0 := by
  by_cases h : Go.Lib.compareBytes y x < 0
  · right
    intro k
    have := cb_trans _ _ _ h k
    rw [cb_self] at this
    omega
  · exact .inl h
theorem bsort_spec (l : List ByteArray) : WB (bsort l) ∧ (bsort l).Perm l := by
  unfold bsort
  constructor
  · unfold WB
    rw [List.pairwise_map]
    have h := List.pairwise_mergeSort (le := fun x y : List UInt8 => decide (x ≤ y)) (fun a b c h1 h2 => by
      simp only [decide_eq_true_eq, le_cb] at h1 h2 ⊢
      intro hh
      have h1' : ¬ cmp (⟨b.toArray⟩ : ByteArray) ⟨a.toArray⟩ < 0 := h1
      have h2' : ¬ cmp (⟨c.toArray⟩ : ByteArray) ⟨b.toArray⟩ < 0 := h2
      exact cmp_le_trans h1' h2' hh) (fun a b => by
      simp only [Bool.or_eq_true, decide_eq_true_eq, le_cb]
      exact cb_total a b) (l.map (·.data.toList))
    refine List.Pairwise.imp (fun {x y} hxy => ?_) h
    simp only [decide_eq_true_eq, le_cb] at hxy
    exact hxy
  · have h := List.mergeSort_perm (l.map (·.data.toList)) fun x y => decide (x ≤ y)
    have h2 := h.map fun x => (⟨x.toArray⟩ : ByteArray)
    rw [List.map_map] at h2
    have e : l.map ((fun x : List UInt8 => (⟨x.toArray⟩ : ByteArray)) ∘ fun s : ByteArray => s.data.toList) = l := by
      conv => rhs; rw [← List.map_id l]
      rfl
    rwa [e] at h2
theorem uniqB : ∀ (a b : List ByteArray), a.Perm b → WB a → WB b → a = b
  | [], b, hp, _, _ => (List.nil_perm.1 hp).symm
  | x :: a, [], hp, _, _ => absurd hp.symm (by intro k; have := k.length_eq; simp at this)
  | x :: a, y :: b, hp, ha, hb => by
    have ha' := List.pairwise_cons.1 ha
    have hb' := List.pairwise_cons.1 hb
    have hxy : x = y := by
      have h1 : ¬ cmp x y < 0 := by
        have hm : x ∈ y :: b := hp.subset (by simp)
        rcases List.mem_cons.1 hm with e | hm
        · rw [e, cmp_self]; omega
        · exact hb'.1 x hm
      have h2 : ¬ cmp y x < 0 := by
        have hm : y ∈ x :: a := hp.symm.subset (by simp)
        rcases List.mem_cons.1 hm with e | hm
        · rw [e, cmp_self]; omega
        · exact ha'.1 y hm
      exact cmp_antisymm h1 h2
    subst hxy
    rw [uniqB a b (List.Perm.cons_inv hp) ha'.2 hb'.2]
open Classical in
noncomputable def ap (A : List ByteArray) (x : ByteArray) : List ByteArray := if A.getLast? = some x then A else A ++ [x]
noncomputable def dd (X : List ByteArray) : List ByteArray := X.foldl ap []
theorem ap_last (A : List ByteArray) (x : ByteArray) : (ap A x).getLast? = some x := by
  unfold ap
  split
  · assumption
  · simp
theorem dd_take (X : List ByteArray) {i : Nat} (hi : i < X.length) : dd (X.take (i + 1)) = ap (dd (X.take i)) X[i] := by
  unfold dd
  rw [List.take_add_one, List.getElem?_eq_getElem hi, List.foldl_append]
  rfl
theorem dd_last (X : List ByteArray) {i : Nat} (h0 : 0 < i) (hi : i ≤ X.length) : (dd (X.take i)).getLast? = some (X[i - 1]'(by omega)) := by
  obtain ⟨j, rfl⟩ : ∃ j, i = j + 1 := ⟨i - 1, by omega⟩
  rw [dd_take X (by omega), ap_last]
  simp
theorem dd_len (X : List ByteArray) : ∀ i, i ≤ X.length → (dd (X.take i)).length ≤ i
  | 0, _ => by simp [dd]
  | i + 1, h => by
    have := dd_len X i (by omega)
    rw [dd_take X (by omega)]
    unfold ap
    split
    · omega
    · rw [List.length_append, List.length_singleton]; omega
theorem compact_L9 (X : List ByteArray) (hX : X.length ≤ 1048576) (o : Nat) (ho : o ≤ X.length) : ∀ (k i j : Nat) (m : List ByteArray), o + j + k = X.length → 1 ≤ j → 1 ≤ i → i < o + j → m.length = X.length → m.take i = dd (X.take (o + j)) → m.drop i = X.drop i →
    slices_Compact___string_string__L9.s X.length (i : Int) o (X.length - o) (j : Int) m = some (dd X)
  | 0, i, j, m, hk, hj, hi0, hi, hm, h1, h2 => by
    have e : o + j = X.length := by omega
    rw [slices_Compact___string_string__L9.e, if_neg (by omega), if_pos (by omega), if_pos (by omega), Int.toNat_natCast]
    unfold splice
    rw [List.drop_zero, Nat.sub_zero, List.append_assoc, List.take_append_of_le_length (by rw [List.length_take]; omega), List.take_take, Nat.min_self, h1, e, List.take_length]
  | k + 1, i, j, m, hk, hj, hi0, hi, hm, h1, h2 => by
    have hjx : o + j < X.length := by omega
    have at_ : ∀ q (hq : q < X.length), i ≤ q → nth Ty.str m q = X[q] := fun q hq hiq => by
      rw [nth_at (t := .str) (by omega : q < m.length)]
      have hd : (m.drop i)[q - i]? = (X.drop i)[q - i]? := by rw [h2]
      rw [List.getElem?_drop, List.getElem?_drop, show i + (q - i) = q by omega, List.getElem?_eq_getElem (by omega), List.getElem?_eq_getElem hq] at hd
      exact Option.some.inj hd
    have n1 := at_ (o + j) hjx (by omega)
    have n2 := at_ (o + (j - 1)) (by omega) (by omega)
    rw [slices_Compact___string_string__L9.e, if_pos (by omega), if_pos (by omega), wrap_pred (by omega) (by omega), if_pos (by omega), Int.toNat_natCast, Int.toNat_natCast, n1, n2, wrap_succ (by omega)]
    have hl := dd_last X (i := o + j) (by omega) (by omega)
    have hs := dd_take X hjx
    by_cases he : X[o + j] = X[o + (j - 1)]
    · rw [if_pos he]
      refine compact_L9 X hX o ho k i (j + 1) m (by omega) (by omega) hi0 (by omega) hm ?_ h2
      rw [h1, show o + (j + 1) = o + j + 1 by omega, hs]
      unfold ap
      rw [if_pos]
      rw [hl, he]
      congr 2
      omega
    · rw [if_neg he, if_pos (by omega), if_pos (by omega), wrap_succ (by omega), Int.toNat_natCast]
      refine compact_L9 X hX o ho k (i + 1) (j + 1) (m.set i X[o + j]) (by omega) (by omega) (by omega) (by omega) (by rw [List.length_set]; exact hm) ?_ ?_
      · rw [take_set (by omega), h1, show o + (j + 1) = o + j + 1 by omega, hs]
        unfold ap
        rw [if_neg]
        rw [hl]
        intro k'
        have k' := Option.some.inj k'
        apply he
        rw [← k']
        congr 1
        omega
      · rw [List.drop_set_of_lt (by omega), ← List.drop_drop, h2, List.drop_drop]
theorem compact_L4 (X : List ByteArray) (hX : X.length ≤ 1048576) : ∀ (k i : Nat), i + k = X.length → 1 ≤ i → dd (X.take i) = X.take i → slices_Compact___string_string__L4.s X.length (i : Int) X = some (dd X)
  | 0, i, hk, hi0, h1 => by
    have e : i = X.length := by omega
    rw [slices_Compact___string_string__L4.e, if_neg (by omega)]
    rw [e, List.take_length] at h1
    rw [h1]
  | k + 1, i, hk, hi0, h1 => by
    have hi : i < X.length := by omega
    have n1 : nth Ty.str X i = X[i] := nth_at (t := .str) hi
    have n2 : nth Ty.str X (i - 1) = X[i - 1]'(by omega) := nth_at (t := .str) (by omega)
    have hl := dd_last X (i := i) (by omega) (by omega)
    have hs := dd_take X hi
    rw [slices_Compact___string_string__L4.e, if_pos (by omega), if_pos (by omega), wrap_pred (by omega) (by omega), if_pos (by omega), Int.toNat_natCast, Int.toNat_natCast, n1, n2, wrap_succ (by omega)]
    by_cases he : X[i] = X[i - 1]'(by omega)
    · rw [if_pos he, if_pos (by omega)]
      refine compact_L9 X hX i (by omega) k i 1 X (by omega) (by omega) hi0 (by omega) rfl ?_ rfl
      rw [hs]
      unfold ap
      rw [if_pos (by rw [hl, he]), h1]
    · rw [if_neg he]
      refine compact_L4 X hX k (i + 1) (by omega) (by omega) ?_
      rw [hs]
      unfold ap
      rw [if_neg (by rw [hl]; intro k'; exact he (Option.some.inj k').symm), h1, List.take_add_one, List.getElem?_eq_getElem hi]
      rfl
theorem compact_s (X : List ByteArray) (hX : X.length ≤ 1048576) : slices_Compact___string_string_.s X = some (dd X) := by
  rw [slices_Compact___string_string_.e]
  by_cases h : (X.length : Int) < 2
  · rw [if_pos h]
    match X, h with
    | [], _ => rfl
    | [x], _ => simp [dd, ap]
    | a :: b :: r, h => simp at h; omega
  · rw [if_neg h]
    refine compact_L4 X hX (X.length - 1) 1 (by omega) (by omega) ?_
    have h0 : 0 < X.length := by omega
    have := dd_take X h0
    rw [Nat.zero_add] at this
    rw [this]
    match X, h0 with
    | x :: r, _ => simp [dd, ap]
abbrev fpt (f : T_File.den) : ByteArray := f.1
theorem l7sort_in (fs : List T_File.den) (hl : fs.length ≤ 1048576) (i : Nat) (hi : i < fs.length) (m : List T_File.den) (hm : m.length ≤ 1048576) : ∀ a : Nat, a ≤ m.length → (∀ j (hj : j < m.length), a ≤ j → cmp (fpt fs[i]) (fpt m[j]) < 0) →
    ∃ b, b ≤ m.length ∧ spec_l7Sort_L6.s fs m.length (i : Int) (a : Int) m = spec_l7Sort_L3.s fs (m.take b ++ (fs[i] :: m.drop b)).length ((i + 1 : Nat) : Int) (m.take b ++ (fs[i] :: m.drop b)) ∧
      (∀ j (hj : j < m.length), b ≤ j → cmp (fpt fs[i]) (fpt m[j]) < 0) ∧ (∀ h : 0 < b, ∀ h2 : b - 1 < m.length, ¬ cmp (fpt fs[i]) (fpt m[b - 1]) < 0)
  | a, ha, hj => by
    have hlen : (List.take a m).length = a := by simp; omega
    have hlen2 : (List.drop a m).length = m.length - a := by simp
    have he : m.take a ++ (fs[i] :: m.drop a) = List.take a m ++ [fs[i]] ++ List.drop a m := by simp
    have ht : List.take (m.length - a) (List.drop a m) = List.drop a m := List.take_of_length_le (by simp)
    rw [spec_l7Sort_L6.e]
    by_cases h0 : (a : Int) > 0
    · have h1 : a - 1 < m.length := by omega
      rw [if_pos h0, if_pos (by rw [wrap_pred (by omega) (by omega)]; omega), if_pos (by omega), wrap_pred (by omega) (by omega), Int.toNat_natCast, Int.toNat_natCast]
      have n1 : nth T_Object m (a - 1) = m[a - 1] := nth_at h1
      have n2 : nth T_Object fs i = fs[i] := nth_at hi
      rw [n1, n2]
      by_cases hle : BLt (m[a - 1] : T_File.den).1 (fs[i] : T_File.den).1 ∨ (m[a - 1] : T_File.den).1 = (fs[i] : T_File.den).1
      · refine ⟨a, ha, ?_, hj, fun h h2 hh => ?_⟩
        · rw [if_pos hle]
          simp (disch := first | omega | (simp; omega)) only [if_pos, wrap_succ, Int.toNat_natCast, n2, fill1, Nat.sub_zero, List.drop_zero, List.nil_append, ht]
          rw [he]
        · rcases hle with h | h
          · have := cmp_trans hh ((blt_iff _ _).1 h)
            rw [cmp_self] at this
            omega
          · have hh : cmp (fs[i] : T_File.den).1 (m[a - 1] : T_File.den).1 < 0 := hh
            rw [h, cmp_self] at hh
            omega
      · rw [if_neg hle]
        refine l7sort_in fs hl i hi m hm (a - 1) (by omega) fun j hj' haj => ?_
        rcases Nat.lt_or_ge j a with h | h
        · have : j = a - 1 := by omega
          subst this
          exact not_le hle
        · exact hj j hj' h
    · refine ⟨a, ha, ?_, hj, fun h => by omega⟩
      have n2 : nth T_Object fs i = fs[i] := nth_at hi
      rw [if_neg h0]
      simp (disch := first | omega | (simp; omega)) only [if_pos, wrap_succ, Int.toNat_natCast, n2, fill1, Nat.sub_zero, List.drop_zero, List.nil_append, ht]
      rw [he]
termination_by a => a
def WF (l : List T_File.den) : Prop := l.Pairwise fun x y => ¬ cmp (fpt y) (fpt x) < 0
theorem wf_ins {m : List T_File.den} {f : T_File.den} {b : Nat} (hb : b ≤ m.length) (hw : WF m) (h1 : ∀ j (hj : j < m.length), b ≤ j → cmp (fpt f) (fpt m[j]) < 0) (h2 : ∀ h : 0 < b, ∀ h2 : b - 1 < m.length, ¬ cmp (fpt f) (fpt m[b - 1]) < 0) : WF (m.take b ++ (f :: m.drop b)) := by
  have hp := hw
  unfold WF at hp ⊢
  rw [← List.take_append_drop b m, List.pairwise_append] at hp
  rw [List.pairwise_append, List.pairwise_cons]
  have hi : ∀ y ∈ m.drop b, cmp (fpt f) (fpt y) < 0 := fun y hy => by
    obtain ⟨j, hj, rfl⟩ := List.getElem_of_mem hy
    rw [List.getElem_drop]
    rw [List.length_drop] at hj
    exact h1 (b + j) (by omega) (by omega)
  have lo : ∀ x ∈ m.take b, ¬ cmp (fpt f) (fpt x) < 0 := fun x hx => by
    obtain ⟨j, hj, rfl⟩ := List.getElem_of_mem hx
    rw [List.length_take] at hj
    rw [List.getElem_take]
    have hl := h2 (by omega) (by omega)
    rcases Nat.lt_or_ge j (b - 1) with h | h
    · have hle := List.pairwise_iff_getElem.1 hw j (b - 1) (by omega) (by omega) h
      exact cmp_le_trans hle hl
    · have : j = b - 1 := by omega
      subst this
      exact hl
  refine ⟨hp.1, ⟨fun y hy hh => ?_, hp.2.1⟩, fun x hx y hy => ?_⟩
  · have := cmp_trans (hi y hy) hh
    rw [cmp_self] at this
    omega
  · rcases List.mem_cons.1 hy with rfl | hy
    · exact lo x hx
    · exact hp.2.2 x hx y hy
theorem l7sort_loop (fs : List T_File.den) (hl : fs.length ≤ 1048576) : ∀ (q i : Nat) (m : List T_File.den), i + q = fs.length → WF m → m.Perm (fs.take i) → ∃ r, spec_l7Sort_L3.s fs m.length (i : Int) m = some r ∧ WF r ∧ r.Perm fs
  | 0, i, m, h, hw, hp => by
    refine ⟨m, ?_, hw, ?_⟩
    · rw [spec_l7Sort_L3.e, if_neg (by omega)]
    · rwa [List.take_of_length_le (by omega)] at hp
  | q + 1, i, m, h, hw, hp => by
    have hi : i < fs.length := by omega
    have hml : m.length = i := by rw [hp.length_eq, List.length_take]; omega
    obtain ⟨b, b1, b2, b3, b4⟩ := l7sort_in fs hl i hi m (by omega) m.length (Nat.le_refl _) fun j hj hj2 => by omega
    rw [spec_l7Sort_L3.e, if_pos (by omega), b2]
    refine l7sort_loop fs hl q (i + 1) _ (by omega) (wf_ins b1 hw b3 b4) ?_
    have h1 : (m.take b ++ (fs[i] :: m.drop b)).Perm (fs[i] :: m) := by
      have : (m.take b ++ ([fs[i]] ++ m.drop b)).Perm (fs[i] :: (m.take b ++ m.drop b)) := List.perm_middle
      rwa [List.take_append_drop] at this
    have h2 : (fs.take (i + 1)).Perm (fs[i] :: fs.take i) := by
      rw [List.take_add_one, List.getElem?_eq_getElem hi]
      exact List.perm_append_singleton _ _
    exact h1.trans ((hp.cons fs[i]).trans h2.symm)
theorem spec_l7sort (fs : List T_File.den) (hl : fs.length ≤ 1048576) : ∃ r, spec_l7Sort.s fs = some r ∧ r.map fpt = bsort (fs.map fpt) ∧ r.length = fs.length := by
  obtain ⟨r, h1, h2, h3⟩ := l7sort_loop fs hl fs.length 0 [] (by omega) List.Pairwise.nil (by simp)
  refine ⟨r, by rw [spec_l7Sort.e]; exact h1, ?_, h3.length_eq⟩
  obtain ⟨k1, k2⟩ := bsort_spec (fs.map fpt)
  refine uniqB _ _ ((h3.map fpt).trans k2.symm) ?_ k1
  unfold WB
  rw [List.pairwise_map]
  exact h2
theorem l7paths_loop (r : List T_File.den) (hl : r.length ≤ 2000000) : ∀ (k i : Nat) (m : List ByteArray), i + k = r.length → m = dd ((r.map fpt).take i) → spec_l7Paths_L4.s r m.length (i : Int) m = some (dd (r.map fpt))
  | 0, i, m, h, hm => by
    rw [spec_l7Paths_L4.e, if_neg (by omega), hm, List.take_of_length_le (by simp; omega)]
  | k + 1, i, m, h, hm => by
    have hi : i < r.length := by omega
    have hi' : i < (r.map fpt).length := by simpa using hi
    have hs := dd_take (r.map fpt) hi'
    have hml := dd_len (r.map fpt) i (by omega)
    rw [← hm] at hml hs
    have ei : (r.map fpt)[i] = fpt r[i] := by simp
    have n1 : nth T_Object r i = r[i] := nth_at hi
    rw [spec_l7Paths_L4.e, if_pos (by omega)]
    by_cases h0 : (i : Int) = 0
    · have hi0 : i = 0 := by omega
      subst hi0
      have hm0 : m = [] := by rw [hm]; rfl
      subst hm0
      rw [if_pos h0, if_pos (by omega), Int.toNat_natCast, n1, fill1, wrap_succ (by omega), if_pos (by simp)]
      refine l7paths_loop r hl k 1 _ (by omega) ?_
      rw [hs, ei]
      rfl
    · have hl1 := dd_last (r.map fpt) (i := i) (by omega) (by omega)
      rw [← hm] at hl1
      have n2 : nth T_Object r (i - 1) = r[i - 1]'(by omega) := nth_at (by omega)
      have ei2 : (r.map fpt)[i - 1]'(by omega) = fpt (r[i - 1]'(by omega)) := by simp
      rw [if_neg h0, if_pos (by omega), if_pos (by rw [wrap_pred (by omega) (by omega)]; omega), wrap_pred (by omega) (by omega), Int.toNat_natCast, Int.toNat_natCast, n1, n2, wrap_succ (by omega)]
      by_cases he : (r[i] : T_File.den).1 = (r[i - 1]'(by omega) : T_File.den).1
      · rw [if_pos he]
        refine l7paths_loop r hl k (i + 1) m (by omega) ?_
        rw [hs, ei]
        unfold ap
        rw [if_pos (by rw [hl1, ei2]; exact congrArg some he.symm)]
      · rw [if_neg he, if_pos (by omega), fill1, if_pos (by simp; omega)]
        refine l7paths_loop r hl k (i + 1) _ (by omega) ?_
        rw [hs, ei]
        unfold ap
        rw [if_neg (by rw [hl1, ei2]; intro hh; exact he (Option.some.inj hh).symm)]
theorem spec_l7paths (fs : List T_File.den) (hl : fs.length ≤ 1048576) : spec_l7Paths1.s fs = some (dd (bsort (fs.map fpt))) := by
  obtain ⟨r, h1, h2, h3⟩ := spec_l7sort fs hl
  have := l7paths_loop r (by omega) r.length 0 [] (by omega) rfl
  rw [spec_l7Paths1.e, if_pos (by simp; omega), if_pos (by simp; omega), List.nil_append, List.append_nil, h1, Option.bind_some, ← h2]
  exact this
/-! #### the file at a path -/
def fAt (fs : List T_File.den) (p : ByteArray) : T_File.den := (fs.find? fun f => decide (f.1 = p)).elim zF id
theorem spec_fAt (fs : List T_File.den) (hl : fs.length ≤ 1048576) (p : ByteArray) : spec_l7Find.s fs p = some (fAt fs p) := by
  rw [spec_l7Find.e]
  have := row_first0 (t := T_File) (L := fun i => spec_l7Find_L2.s fs p i noS 0 noS) (q := fun f => decide (f.1 = p)) (r := id) (d := zF) (l := fs)
    (by show spec_l7Find_L2.s fs p _ _ _ _ = _; rw [spec_l7Find_L2.e, if_neg (by omega)]; rfl)
    (fun i hi hq => by
      show spec_l7Find_L2.s fs p _ _ _ _ = _
      rw [spec_l7Find_L2.e]
      simp (disch := omega) only [if_pos, Int.toNat_natCast, nth_at (t := T_File) hi]
      have hq : (fs[i] : T_File.den).1 = p := of_decide_eq_true hq
      exact if_pos hq)
    (fun i hi hq => by
      show spec_l7Find_L2.s fs p _ _ _ _ = spec_l7Find_L2.s fs p _ _ _ _
      conv => lhs; rw [spec_l7Find_L2.e]
      simp (disch := omega) only [if_pos, Int.toNat_natCast, nth_at (t := T_File) hi, wrap_succ]
      have hq : ¬ (fs[i] : T_File.den).1 = p := of_decide_eq_false hq
      exact if_neg hq)
  exact this
theorem impl_fAt (fs : List T_File.den) (hl : fs.length ≤ 1048576) (p : ByteArray) : impl_fileAt.s fs p = some (fAt fs p) := by
  rw [impl_fileAt.e, impl_fileAt_L1.e, slices_IndexFunc___impl_File_impl_File__v2.e]
  have := row_find0 (t := T_File) (L := fun i => slices_IndexFunc___impl_File_impl_File__v2_L2.s fs p (fs.length : Int) i) (q := fun f => decide (f.1 = p)) hl
    (by show slices_IndexFunc___impl_File_impl_File__v2_L2.s fs p _ _ = _; rw [slices_IndexFunc___impl_File_impl_File__v2_L2.e, if_neg (by omega)])
    (fun i hi hq => by
      show slices_IndexFunc___impl_File_impl_File__v2_L2.s fs p _ _ = _
      rw [slices_IndexFunc___impl_File_impl_File__v2_L2.e]
      simp (disch := omega) only [if_pos, Int.toNat_natCast, nth_at (t := T_File) hi, wrap_succ]
      have hq : (fs[i] : T_File.den).1 = nth Ty.str [p] 0 := of_decide_eq_true hq
      exact if_pos hq)
    (fun i hi hq => by
      show slices_IndexFunc___impl_File_impl_File__v2_L2.s fs p _ _ = slices_IndexFunc___impl_File_impl_File__v2_L2.s fs p _ _
      conv => lhs; rw [slices_IndexFunc___impl_File_impl_File__v2_L2.e]
      simp (disch := omega) only [if_pos, Int.toNat_natCast, nth_at (t := T_File) hi, wrap_succ]
      have hq : ¬ (fs[i] : T_File.den).1 = nth Ty.str [p] 0 := of_decide_eq_false hq
      exact if_neg hq)
  have h0 : slices_IndexFunc___impl_File_impl_File__v2_L2.s fs p (fs.length : Int) 0 = _ := this
  rw [h0, Option.bind_some]
  unfold fAt
  cases hf : fs.findIdx? (fun f => decide (f.1 = p)) with
  | none =>
    have : fs.find? (fun f => decide (f.1 = p)) = none := by
      rw [List.find?_eq_none]
      rw [List.findIdx?_eq_none_iff] at hf
      intro x hx
      rw [hf x hx]; simp
    rw [this]
    rfl
  | some n =>
    obtain ⟨h1, h2, h3⟩ := List.findIdx?_eq_some_iff_getElem.1 hf
    have : fs.find? (fun f => decide (f.1 = p)) = some fs[n] := by
      rw [List.find?_eq_some_iff_getElem]
      exact ⟨h2, n, h1, rfl, fun j hj => by have := h3 j hj; simpa using this⟩
    rw [this]
    dsimp only
    rw [if_neg (by omega), if_pos (by omega), Int.toNat_natCast, nth_at (t := T_File) h1]
    rfl
theorem fAt_cases (fs : List T_File.den) (p : ByteArray) : fAt fs p = zF ∨ (fAt fs p ∈ fs ∧ (fAt fs p).1 = p) := by
  unfold fAt
  cases h : fs.find? (fun f => decide (f.1 = p)) with
  | none => exact .inl rfl
  | some f =>
    right
    have h1 := List.mem_of_find?_eq_some h
    have h2 := List.find?_some h
    exact ⟨h1, of_decide_eq_true h2⟩
/-! #### the paths -/
theorem impl_paths_in (fs : List T_File.den) (hl : fs.length ≤ 1048576) (L : List (List T_File.den)) (n : Int) (i : Int) : ∀ (k j : Nat) (m : List ByteArray), j + k = fs.length → m.length ≤ 3000000 + j →
    impl_pathsOf_L6.s m.length L n i fs (fs.length : Int) (j : Int) m = impl_pathsOf_L3.s (m ++ (fs.drop j).map fpt).length L n (IntKind.i64.wrap (i + 1)) (m ++ (fs.drop j).map fpt)
  | 0, j, m, h, hm => by
    rw [impl_pathsOf_L6.e, if_neg (by omega), List.drop_eq_nil_of_le (by omega), List.map_nil, List.append_nil]
  | k + 1, j, m, h, hm => by
    have hj : j < fs.length := by omega
    have n1 : nth T_Object fs j = fs[j] := nth_at hj
    have e : m ++ [(fs[j] : T_File.den).1] ++ (fs.drop (j + 1)).map fpt = m ++ (fs.drop j).map fpt := by rw [List.drop_eq_getElem_cons hj, List.map_cons, List.append_assoc]; rfl
    rw [impl_pathsOf_L6.e, if_pos (by omega), if_pos (by omega), Int.toNat_natCast, n1, fill1, wrap_succ (by omega), if_pos (by simp; omega), impl_paths_in fs hl L n i k (j + 1) _ (by omega) (by simp; omega), e]
theorem impl_paths (a b c : List T_File.den) (ha : a.length ≤ 60) (hb : b.length ≤ 60) (hc : c.length ≤ 60) : impl_pathsOf.s [a, b, c] = some (dd (bsort ((a ++ b ++ c).map fpt))) := by
  have w1 : IntKind.i64.wrap ((0 : Int) + 1) = 1 := by decide
  have w2 : IntKind.i64.wrap ((1 : Int) + 1) = 2 := by decide
  have w3 : IntKind.i64.wrap ((2 : Int) + 1) = 3 := by decide
  have n0 : nth T_Object.sl [a, b, c] (0 : Int).toNat = a := rfl
  have n1 : nth T_Object.sl [a, b, c] (1 : Int).toNat = b := rfl
  have n2 : nth T_Object.sl [a, b, c] (2 : Int).toNat = c := rfl
  have s0 := impl_paths_in a (by omega) [a, b, c] 3 0 a.length 0 [] (by omega) (by simp)
  have s1 := impl_paths_in b (by omega) [a, b, c] 3 1 b.length 0 (a.map fpt) (by omega) (by simp; omega)
  have s2 := impl_paths_in c (by omega) [a, b, c] 3 2 c.length 0 (a.map fpt ++ b.map fpt) (by omega) (by simp; omega)
  rw [List.drop_zero] at s0 s1 s2
  rw [List.nil_append, w1] at s0
  rw [w2] at s1
  rw [w3] at s2
  have s0 : impl_pathsOf_L6.s 0 [a, b, c] 3 0 a (a.length : Int) 0 [] = _ := s0
  have s1 : impl_pathsOf_L6.s (a.map fpt).length [a, b, c] 3 1 b (b.length : Int) 0 (a.map fpt) = _ := s1
  have s2 : impl_pathsOf_L6.s (a.map fpt ++ b.map fpt).length [a, b, c] 3 2 c (c.length : Int) 0 (a.map fpt ++ b.map fpt) = _ := s2
  rw [impl_pathsOf.e]
  show impl_pathsOf_L3.s 0 [a, b, c] 3 0 [] = _
  rw [impl_pathsOf_L3.e, if_pos (by decide), if_pos (by simp), n0]
  show impl_pathsOf_L6.s 0 [a, b, c] 3 0 a (a.length : Int) 0 [] = _
  rw [s0, impl_pathsOf_L3.e, if_pos (by decide), if_pos (by simp), n1]
  show impl_pathsOf_L6.s (a.map fpt).length [a, b, c] 3 1 b (b.length : Int) 0 (a.map fpt) = _
  rw [s1, impl_pathsOf_L3.e, if_pos (by decide), if_pos (by simp), n2]
  show impl_pathsOf_L6.s (a.map fpt ++ b.map fpt).length [a, b, c] 3 2 c (c.length : Int) 0 (a.map fpt ++ b.map fpt) = _
  rw [s2, impl_pathsOf_L3.e, if_neg (by decide), if_pos (by simp; omega)]
  have e : a.map fpt ++ b.map fpt ++ c.map fpt = (a ++ b ++ c).map fpt := by simp
  rw [e]
  show (slices_Compact___string_string_.s (bsort ((a ++ b ++ c).map fpt))).bind _ = _
  have hlen : (bsort ((a ++ b ++ c).map fpt)).length ≤ 180 := by
    rw [(bsort_spec _).2.length_eq]; simp; omega
  rw [compact_s _ (by omega)]
  rfl
/-! #### no path in another -/
def inE (l : List T_Entry.den) (p : ByteArray) : Bool := l.any fun o => inD p o.1
theorem impl_anyE (l : List T_Entry.den) (hl : l.length ≤ 1048576) (hp : ∀ e ∈ l, (e.1 : ByteArray).size ≤ 1048576) (c : T_Entry.den) : slices_ContainsFunc___impl_Entry_impl_Entry_.s l c = some (inE l c.1) := by
  rw [slices_ContainsFunc___impl_Entry_impl_Entry_.e, slices_IndexFunc___impl_Entry_impl_Entry_.e]
  have := row_find0 (t := T_Entry) (L := fun i => slices_IndexFunc___impl_Entry_impl_Entry__L2.s l c (l.length : Int) i) (q := fun o => inD c.1 o.1) hl
    (by show slices_IndexFunc___impl_Entry_impl_Entry__L2.s l c _ _ = _; rw [slices_IndexFunc___impl_Entry_impl_Entry__L2.e, if_neg (by omega)])
    (fun i hi hq => by
      show slices_IndexFunc___impl_Entry_impl_Entry__L2.s l c _ _ = _
      rw [slices_IndexFunc___impl_Entry_impl_Entry__L2.e]
      simp (disch := omega) only [if_pos, Int.toNat_natCast, nth_at (t := T_Entry) hi]
      have h1 := (inDir_all c.1 (l[i] : T_Entry.den).1 (hp _ (List.getElem_mem hi))).2
      have h1 : impl_InDir.s (nth T_Entry [c] 0).1 (l[i] : T_Entry.den).1 = _ := h1
      rw [h1, Option.bind_some]
      exact if_pos hq)
    (fun i hi hq => by
      show slices_IndexFunc___impl_Entry_impl_Entry__L2.s l c _ _ = slices_IndexFunc___impl_Entry_impl_Entry__L2.s l c _ _
      conv => lhs; rw [slices_IndexFunc___impl_Entry_impl_Entry__L2.e]
      simp (disch := omega) only [if_pos, Int.toNat_natCast, nth_at (t := T_Entry) hi, wrap_succ]
      have h1 := (inDir_all c.1 (l[i] : T_Entry.den).1 (hp _ (List.getElem_mem hi))).2
      have h1 : impl_InDir.s (nth T_Entry [c] 0).1 (l[i] : T_Entry.den).1 = _ := h1
      rw [h1, Option.bind_some]
      exact if_neg (by rw [hq]; simp))
  have h0 : slices_IndexFunc___impl_Entry_impl_Entry__L2.s l c (l.length : Int) 0 = _ := this
  rw [h0, Option.bind_some]
  exact congrArg some (find_any (q := fun o : T_Entry.den => inD c.1 o.1) l)
section
variable (I : List T_Entry.den) (hI : I.length ≤ 200) (hp : ∀ e ∈ I, (e.1 : ByteArray).size ≤ 1048576) (s : List T_Object.den) (W : List T_Work.den)
include hI hp in
theorem spec_in_row (i : Nat) (hi : i < I.length) : ∀ (m k : Nat), k + m = I.length →
    spec_l11Trees_L20v1.s (i : Int) (k : Int) 0 0 s I.length W.length I W = if (I.drop k).any (fun o => inD (I[i] : T_Entry.den).1 o.1) = true then some ((7 : Int), [], [], [], ()) else spec_l11Trees_L17v1.s ((i + 1 : Nat) : Int) 0 0 s I.length W.length I W
  | 0, k, h => by
    rw [spec_l11Trees_L20v1.e, if_neg (by omega), List.drop_eq_nil_of_le (by omega), if_neg (by simp), wrap_succ (by omega)]
  | m + 1, k, h => by
    have hk : k < I.length := by omega
    have n1 : nth T_Entry I i = I[i] := nth_at hi
    have n2 : nth T_Entry I k = I[k] := nth_at hk
    have h1 := (inDir_all (I[i] : T_Entry.den).1 (I[k] : T_Entry.den).1 (hp _ (List.getElem_mem hk))).1
    rw [spec_l11Trees_L20v1.e, if_pos (by omega), if_pos (by omega), if_pos (by omega), Int.toNat_natCast, Int.toNat_natCast, n1, n2, h1, Option.bind_some, wrap_succ (by omega), spec_in_row i hi m (k + 1) (by omega), List.drop_eq_getElem_cons hk, List.any_cons]
    cases inD (I[i] : T_Entry.den).1 (I[k] : T_Entry.den).1 with
    | true => rw [if_pos rfl, Bool.true_or, if_pos rfl]
    | false => rw [if_neg (by simp), Bool.false_or]
include hI hp in
theorem dirs_both : ∀ (m i : Nat), i + m = I.length → ∃ A, spec_l11Trees_L17v1.s (i : Int) 0 0 s I.length W.length I W = some A ∧ impl_mergeTrees_L17v1.s I.length (I.length : Int) (i : Int) 0 0 s.length I.length W.length I s W = some A ∧ (A = ((0 : Int), s, I, W, ()) ∨ A = ((7 : Int), [], [], [], ()))
  | 0, i, h => by
    refine ⟨((0 : Int), s, I, W, ()), ?_, ?_, .inl rfl⟩
    · rw [spec_l11Trees_L17v1.e, if_neg (by omega)]
    · rw [impl_mergeTrees_L17v1.e, if_neg (by omega)]
  | m + 1, i, h => by
    have hi : i < I.length := by omega
    have n1 : nth T_Entry I (i : Int).toNat = I[i] := by rw [Int.toNat_natCast]; exact nth_at hi
    have h0 := spec_in_row I hI hp s W i hi I.length 0 (by omega)
    rw [List.drop_zero] at h0
    have h0 : spec_l11Trees_L20v1.s (i : Int) 0 0 0 s I.length W.length I W = _ := h0
    obtain ⟨A, a1, a2, a3⟩ := dirs_both m (i + 1) (by omega)
    have hany := impl_anyE I (by omega) hp I[i]
    have he : ((I[i] : T_Entry.den).1, (I[i] : T_Entry.den).2.1, (I[i] : T_Entry.den).2.2.1, (I[i] : T_Entry.den).2.2.2.1, ()) = (I[i] : T_Entry.den) := rfl
    have hs : spec_l11Trees_L17v1.s (i : Int) 0 0 s I.length W.length I W = if inE I (I[i] : T_Entry.den).1 = true then some ((7 : Int), [], [], [], ()) else spec_l11Trees_L17v1.s ((i + 1 : Nat) : Int) 0 0 s I.length W.length I W := by
      rw [spec_l11Trees_L17v1.e, if_pos (by omega)]
      exact h0
    have hm : impl_mergeTrees_L17v1.s I.length (I.length : Int) (i : Int) 0 0 s.length I.length W.length I s W = if inE I (I[i] : T_Entry.den).1 = true then some ((7 : Int), [], [], [], ()) else impl_mergeTrees_L17v1.s I.length (I.length : Int) ((i + 1 : Nat) : Int) 0 0 s.length I.length W.length I s W := by
      rw [impl_mergeTrees_L17v1.e, if_pos (by omega), if_pos (by omega), n1, he, impl_mergeTrees_L19.e, hany, Option.bind_some, wrap_succ (by omega)]
    rw [hs, hm]
    by_cases hc : inE I (I[i] : T_Entry.den).1 = true
    · rw [if_pos hc, if_pos hc]
      exact ⟨_, rfl, rfl, .inr rfl⟩
    · rw [if_neg hc, if_neg hc]
      exact ⟨A, a1, a2, a3⟩
end
/-! #### path by path -/
section
variable (b o t : List T_File.den) (hb : b.length ≤ 60) (ho : o.length ≤ 60) (ht : t.length ≤ 60) (zb : ∀ f ∈ b, szF f) (zo : ∀ f ∈ o, szF f) (zt : ∀ f ∈ t, szF f)
def Has (s : List T_Object.den) : Prop := ∀ f, f ∈ b ∨ f ∈ o ∨ f ∈ t → (getO s 1 f.2.2.1).2 = true
theorem Has.ext {s s' : List T_Object.den} (h : Has b o t s) (he : Ext s s') : Has b o t s' := fun f hf => by rw [he _ (h f hf)]; exact h f hf
include hb ho ht zb zo zt in
theorem one_path {s : List T_Object.den} (hs : OkStore s) (hh : Has b o t s) (p : ByteArray) : ∃ R, spec_l11Path.s s (fAt b p) (fAt o p) (fAt t p) = some R ∧ impl_mergePath.s s (fAt b p) (fAt o p) (fAt t p) = some R ∧ GoodR s R := by
  have one : ∀ (l : List T_File.den), (¬ zeroF (fAt l p) → (fAt l p).1 = p) := fun l hz => by
    rcases fAt_cases l p with h | h
    · rw [h] at hz; exact absurd zeroF_z hz
    · exact h.2
  have hp : OneP p (fAt b p) (fAt o p) (fAt t p) := ⟨one b, one o, one t⟩
  have sz : ∀ (l : List T_File.den), (∀ f ∈ l, szF f) → szF (fAt l p) := fun l hz => by
    rcases fAt_cases l p with h | h
    · rw [h]; exact ⟨Nat.zero_le _, Nat.zero_le _⟩
    · exact hz _ h.1
  have bl : ∀ f ∈ [fAt b p, fAt o p, fAt t p], ¬ zeroF f → (getO s 1 f.2.2.1).2 = true := fun f hf hz => by
    have : ∀ l, f = fAt l p → f ∈ l := fun l e => by
      rcases fAt_cases l p with h | h
      · rw [e, h] at hz; exact absurd zeroF_z hz
      · rw [e]; exact h.1
    rcases List.mem_cons.1 hf with e | hf
    · exact hh f (.inl (this b e))
    · rcases List.mem_cons.1 hf with e | hf
      · exact hh f (.inr (.inl (this o e)))
      · exact hh f (.inr (.inr (this t (List.mem_singleton.1 hf))))
  obtain ⟨R, r1, r2, _⟩ := path_all hs hp bl (sz b zb) (sz o zo) (sz t zt)
  exact ⟨R, r1, r2, path_good hs hp bl (sz b zb) (sz o zo) (sz t zt) r1⟩
include hb ho ht zb zo zt in
theorem trees_loop (ps : List ByteArray) (hps : ps.length ≤ 180) : ∀ (k i : Nat) (s : List T_Object.den) (I : List T_Entry.den) (W : List T_Work.den), i + k = ps.length → OkStore s → Has b o t s → I.length ≤ 3 * i → (∀ e ∈ I, (e.1 : ByteArray).size ≤ 1048576 ∧ (e.2.2.2.1 : ByteArray).size ≤ 1048576) → W.length ≤ i → (∀ e ∈ W, (e.1 : ByteArray).size ≤ 1048576 ∧ (e.2.1 : ByteArray).size ≤ 1048576) →
    ∃ A, spec_l11Trees_L5v1.s b o t ps (i : Int) 0 0 s I.length W.length I W = some A ∧ impl_mergeTrees_L5v1.s b o t ps.length (ps.length : Int) (i : Int) 0 0 s.length I.length W.length ps s I W = some A ∧ SmallT A
  | 0, i, s, I, W, h, hs, hh, hI, hIz, hW, hWz => by
    have hs' : spec_l11Trees_L5v1.s b o t ps (i : Int) 0 0 s I.length W.length I W = if (I.length : Int) > 200 then some ((2 : Int), [], [], [], ()) else spec_l11Trees_L17v1.s 0 0 0 s I.length W.length I W := by rw [spec_l11Trees_L5v1.e, if_neg (by omega)]
    have hm' : impl_mergeTrees_L5v1.s b o t ps.length (ps.length : Int) (i : Int) 0 0 s.length I.length W.length ps s I W = if (I.length : Int) > 200 then some ((2 : Int), [], [], [], ()) else impl_mergeTrees_L17v1.s I.length (I.length : Int) 0 0 0 s.length I.length W.length I s W := by rw [impl_mergeTrees_L5v1.e, if_neg (by omega)]
    rw [hs', hm']
    by_cases hc : (I.length : Int) > 200
    · rw [if_pos hc, if_pos hc]; exact ⟨_, rfl, rfl, smallT_bad _⟩
    · rw [if_neg hc, if_neg hc]
      obtain ⟨A, a1, a2, a3⟩ := dirs_both I (by omega) (fun e he => (hIz e he).1) s W I.length 0 (by omega)
      refine ⟨A, a1, a2, ?_⟩
      rcases a3 with rfl | rfl
      · exact smallT_of hs (by omega) hIz (by omega) hWz
      · exact smallT_bad _
  | k + 1, i, s, I, W, h, hs, hh, hI, hIz, hW, hWz => by
    have hi : i < ps.length := by omega
    have hn : nth Ty.str ps (i : Int).toNat = ps[i] := by rw [Int.toNat_natCast]; exact nth_at (t := .str) hi
    obtain ⟨R, r1, r2, r3⟩ := one_path b o t hb ho ht zb zo zt hs hh ps[i]
    rw [spec_l11Trees_L5v1.e, if_pos (by omega), if_pos (by omega), hn, spec_fAt b (by omega), spec_fAt o (by omega), spec_fAt t (by omega), impl_mergeTrees_L5v1.e, if_pos (by omega), if_pos (by omega), hn, impl_fAt b (by omega), impl_fAt o (by omega), impl_fAt t (by omega)]
    simp only [Option.bind_some, r1, r2]
    have hil := r3.il
    have hwl := r3.wl
    by_cases hc : (R.1 : Int) = 0
    · rw [if_pos hc, if_pos hc, if_pos (by omega), if_pos (by omega), if_pos (by omega), if_pos (by omega), wrap_succ (by omega)]
      refine trees_loop ps hps k (i + 1) R.2.1 (I ++ R.2.2.1) (W ++ R.2.2.2.1) (by omega) (r3.ok hc) (hh.ext b o t (r3.ext hc)) (by rw [List.length_append]; omega) (fun e he => ?_) (by rw [List.length_append]; omega) (fun e he => ?_)
      · rcases List.mem_append.1 he with he | he
        · exact hIz e he
        · exact r3.ie e he
      · rcases List.mem_append.1 he with he | he
        · exact hWz e he
        · exact r3.we e he
    · rw [if_neg hc, if_neg hc]
      refine ⟨R, rfl, rfl, ?_⟩
      rw [r3.bad hc]
      exact smallT_bad _
include hb ho ht zb zo zt in
theorem trees_first (ps : List ByteArray) (hps : ps.length ≤ 180) {s : List T_Object.den} (hs : OkStore s) (hh : Has b o t s) :
    ∃ A, spec_l11Trees_L5.s b o t ps 0 0 0 s.length s = some A ∧ impl_mergeTrees_L5.s b o t ps.length (ps.length : Int) 0 0 0 s.length ps s = some A ∧ SmallT A := by
  rw [spec_l11Trees_L5.e, impl_mergeTrees_L5.e]
  by_cases hi : (0 : Int) < (ps.length : Int)
  · have hi' : 0 < ps.length := by omega
    have hn : nth Ty.str ps (0 : Int).toNat = ps[0] := nth_at (t := .str) hi'
    obtain ⟨R, r1, r2, r3⟩ := one_path b o t hb ho ht zb zo zt hs hh ps[0]
    have w1 : IntKind.i64.wrap ((0 : Int) + 1) = ((1 : Nat) : Int) := by decide
    rw [if_pos hi, if_pos hi, if_pos (by omega), if_pos (by omega), hn, spec_fAt b (by omega), spec_fAt o (by omega), spec_fAt t (by omega), impl_fAt b (by omega), impl_fAt o (by omega), impl_fAt t (by omega)]
    simp only [Option.bind_some, r1, r2]
    have hil := r3.il
    have hwl := r3.wl
    by_cases hc : (R.1 : Int) = 0
    · rw [if_pos hc, if_pos hc, if_pos (by omega), if_pos (by omega), if_pos (by omega), if_pos (by omega), w1]
      exact trees_loop b o t hb ho ht zb zo zt ps hps (ps.length - 1) 1 R.2.1 R.2.2.1 R.2.2.2.1 (by omega) (r3.ok hc) (hh.ext b o t (r3.ext hc)) (by omega) r3.ie (by omega) r3.we
    · rw [if_neg hc, if_neg hc]
      refine ⟨R, rfl, rfl, ?_⟩
      rw [r3.bad hc]
      exact smallT_bad _
  · rw [if_neg hi, if_neg hi, spec_l11Trees_L17.e, if_neg (by simp), impl_mergeTrees_L17.e, if_neg (by simp)]
    exact ⟨_, rfl, rfl, smallT_of hs (by simp) (by simp) (by simp) (by simp)⟩
end
end Go.Proofs.YtmojilihllhadaaGreatDoor.Ev
