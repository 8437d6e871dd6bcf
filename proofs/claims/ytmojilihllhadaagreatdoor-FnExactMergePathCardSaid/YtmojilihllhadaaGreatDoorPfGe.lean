/- PfPath, PfNames, PfRow, PfFiles, PfBlobs, PfTree4, PfBlobsI, PfTree5. -/
import Derived.Test.YtmojilihllhadaaGreatDoorPfGa
import Derived.Lib.SlTrimSet
import Derived.Test.YtmojilihllhadaaGreatDoorPfGc
import Derived.Test.YtmojilihllhadaaGreatDoorPfGd
set_option linter.unusedVariables false
set_option linter.unusedSimpArgs false
set_option linter.unusedSectionVars false
namespace Go.Proofs.YtmojilihllhadaaGreatDoor.Ev
open Go
/-! #### the parts of a path -/
def prt : List UInt8 → List UInt8 → List (List UInt8)
  | cur, [] => [cur]
  | cur, b :: r => match b == 47 with
    | true => cur :: prt [] r
    | false => prt (cur ++ [b]) r
def partsL (s : ByteArray) : List ByteArray := (prt [] s.data.toList).map ba
theorem prt_len : ∀ (l cur : List UInt8), (prt cur l).length = l.count 47 + 1
  | [], _ => rfl
  | b :: r, cur => by
    simp only [prt]
    cases hb : (b == 47) with
    | true => simp only [List.length_cons, prt_len r]; rw [List.count_cons, hb]; simp
    | false => simp only [prt_len r]; rw [List.count_cons, hb]; simp
theorem partsL_len (s : ByteArray) : (partsL s).length ≤ s.size + 1 := by
  unfold partsL
  rw [List.length_map, prt_len, Go.Lib.size_eq s]
  have := List.count_le_length (a := (47 : UInt8)) (l := s.data.toList)
  omega
theorem idx47 : ∀ (l : List UInt8), (Go.Lib.indexByte l 47 = -1 ∧ l.count 47 = 0 ∧ ∀ cur, prt cur l = [cur ++ l]) ∨
    ∃ k : Nat, Go.Lib.indexByte l 47 = (k : Int) ∧ k < l.length ∧ (∀ cur, prt cur l = (cur ++ l.take k) :: prt [] (l.drop (k + 1))) ∧ l.count 47 = (l.drop (k + 1)).count 47 + 1
  | [] => .inl ⟨rfl, rfl, fun cur => by simp [prt]⟩
  | b :: r => by
    cases hb : (b == 47) with
    | true =>
      refine .inr ⟨0, by simp [Go.Lib.indexByte, hb], by simp, fun cur => by simp [prt, hb], ?_⟩
      rw [List.count_cons, hb]; simp
    | false =>
      rcases idx47 r with ⟨h1, h2, h3⟩ | ⟨k, h1, h2, h3, h4⟩
      · refine .inl ⟨by simp [Go.Lib.indexByte, hb, h1], by rw [List.count_cons, hb, h2]; rfl, fun cur => by simp [prt, hb, h3]⟩
      · refine .inr ⟨k + 1, ?_, by simpa using h2, fun cur => by simp [prt, hb, h3], ?_⟩
        · have hne : ((k : Int) == -1) = false := by rw [beq_eq_false_iff_ne]; omega
          simp only [Go.Lib.indexByte, hb, h1, hne, Bool.false_eq_true, if_false]; omega
        · rw [List.count_cons, hb, h4]; simp
theorem byte_eq47 (c : UInt8) : ((c.toNat : Int) = 47) ↔ (c == 47) = true := by
  rw [beq_iff_eq]
  constructor
  · intro h; exact UInt8.toNat_inj.1 (by show c.toNat = 47; omega)
  · rintro rfl; rfl
theorem parts_L4 (D : List UInt8) (hD : D.length ≤ 1048576) : ∀ (k from_ i : Nat) (m : List ByteArray), i + k = D.length → from_ ≤ i → m.length ≤ i →
    spec_l7Parts_L4.s (ba D) m.length (from_ : Int) (i : Int) m = some (m ++ (prt ((D.drop from_).take (i - from_)) (D.drop i)).map ba)
  | 0, from_, i, m, hk, hf, hm => by
    have hi : i = D.length := by omega
    rw [spec_l7Parts_L4.e]
    simp (disch := omega) only [if_pos, ba_size, fill1, List.length_cons, List.length_nil, wrap_succ, Int.toNat_natCast, ba_extract]
    rw [spec_l7Parts_L4.e, if_neg (by rw [ba_size]; omega), List.drop_eq_nil_of_le (by omega : D.length ≤ i)]
    rfl
  | k + 1, from_, i, m, hk, hf, hm => by
    have hi : i < D.length := by omega
    have hcur : (D.drop from_).take (i + 1 - from_) = (D.drop from_).take (i - from_) ++ [D[i]] := by
      rw [show i + 1 - from_ = (i - from_) + 1 by omega, List.take_succ_eq_append_getElem (by simp; omega)]
      simp only [List.getElem_drop]
      congr 3
      omega
    rw [List.drop_eq_getElem_cons hi]
    simp only [prt]
    rw [spec_l7Parts_L4.e]
    simp (disch := omega) only [if_pos, if_neg, ba_size, fill1, List.length_cons, List.length_nil, wrap_succ, Int.toNat_natCast, ba_extract, ba_byte hi]
    cases hc : (D[i] == 47) with
    | true =>
      rw [if_pos ((byte_eq47 _).2 hc)]
      have := parts_L4 D hD k (i + 1) (i + 1) (m ++ [ba ((D.drop from_).take (i - from_))]) (by omega) (by omega) (by simp; omega)
      rw [this]
      simp
    | false =>
      rw [if_neg (fun h => by have := (byte_eq47 _).1 h; rw [hc] at this; cases this)]
      rw [parts_L4 D hD k from_ (i + 1) m (by omega) (by omega) (by omega), hcur]
theorem spec_parts (s : ByteArray) (h : s.size ≤ 1048576) : spec_l7Parts.s s = some (partsL s) := by
  rw [spec_l7Parts.e]
  have := parts_L4 s.data.toList (by rw [← Go.Lib.size_eq]; exact h) s.data.toList.length 0 0 [] (by omega) (by omega) (by simp)
  rw [ba_self] at this
  simpa [partsL] using this
def sl : ByteArray := ByteArray.mk #[(47 : UInt8)]
theorem sl_ne : sl ≠ noS := fun h => by
  have := congrArg ByteArray.size h
  cases this
theorem sl_size : (sl.size : Int) = 1 := rfl
theorem count_sl (l : List UInt8) : strings_Count.s (ba l) sl = some ((l.count 47 : Nat) : Int) := by
  rw [strings_Count.e, if_neg (by decide), if_pos (by decide), if_pos (by decide)]; rfl
theorem index_sl (l : List UInt8) : strings_Index.s (ba l) sl = some (Go.Lib.indexByte l 47) := by
  rw [strings_Index.e, stringslite_Index.e, if_neg (by decide)]
  by_cases h : sl = ba l
  · have hl : l = [47] := by
      have := congrArg (fun x : ByteArray => x.data.toList) h
      exact this.symm
    subst hl
    rw [if_pos h]; rfl
  · rw [if_neg h, if_pos (by decide), if_pos (by decide), stringslite_IndexByte.e]; rfl
theorem split47 : ∀ (c i : Nat) (r : List UInt8) (a : List ByteArray), i + r.length ≤ 1048577 → r.count 47 = c → a.length = i + c + 1 →
    strings_genSplit_L11.s (ba r) sl 0 ((i + c : Nat) : Int) (i + c + 1) (i : Int) a = some (a.take i ++ (prt [] r).map ba)
  | 0, i, r, a, hr, hc, ha => by
    rcases idx47 r with ⟨_, _, h3⟩ | ⟨k, _, _, _, h4⟩
    · rw [strings_genSplit_L11.e]
      simp (disch := omega) only [if_pos, if_neg, wrap_succ, Int.toNat_natCast]
      rw [List.drop_zero, Nat.sub_zero, take_set (by omega), h3]
      rfl
    · omega
  | c + 1, i, r, a, hr, hc, ha => by
    rcases idx47 r with ⟨_, h2, _⟩ | ⟨k, h1, h2, h3, h4⟩
    · omega
    · have hd : (r.drop (k + 1)).take (r.length - (k + 1)) = r.drop (k + 1) := List.take_of_length_le (by simp)
      rw [strings_genSplit_L11.e]
      simp (disch := omega) only [if_pos, if_neg, wrap_succ, Int.toNat_natCast, index_sl, Option.bind_some, h1, sl_size, ba_size, Int.add_zero, wrap_nat, ba_extract, List.drop_zero, Nat.sub_zero, hd]
      have := split47 c (i + 1) (r.drop (k + 1)) (a.set i (ba (r.take k))) (by simp; omega) (by omega) (by simp; omega)
      rw [take_set (by omega)] at this
      rw [show i + 1 + c = i + (c + 1) by omega] at this
      rw [this, h3, List.nil_append, List.map_cons]
      simp
theorem impl_split (s : ByteArray) (h : s.size ≤ 1048576) : strings_Split.s s (ByteArray.mk #[(47 : UInt8)]) = some (partsL s) := by
  show strings_Split.s s sl = _
  have hcl : s.data.toList.count 47 ≤ s.data.toList.length := List.count_le_length
  have hsz : s.size = s.data.toList.length := Go.Lib.size_eq s
  unfold partsL
  generalize hD : s.data.toList = D at hcl hsz
  have hs : s = ba D := by rw [← hD, ba_self]
  subst hs
  have hw1 : IntKind.i64.wrap (((ba D).size : Int) + 1) = ((D.length + 1 : Nat) : Int) := by rw [ba_size]; exact wrap_succ (by omega)
  have hw2 : IntKind.i64.wrap (((D.count 47 : Nat) : Int) + 1) = ((D.count 47 + 1 : Nat) : Int) := wrap_succ (by omega)
  have hif : (if ((D.length + 1 : Nat) : Int) < ((D.count 47 + 1 : Nat) : Int) then ((D.length + 1 : Nat) : Int) else ((D.count 47 + 1 : Nat) : Int)) = ((D.count 47 + 1 : Nat) : Int) := if_neg (by omega)
  rw [strings_Split.e, strings_genSplit.e, if_neg (by omega), if_neg sl_ne, if_pos (by omega), count_sl, Option.bind_some]
  simp only [hw1, hw2, hif]
  rw [if_pos (by omega)]
  have hw3 : IntKind.i64.wrap (((D.count 47 + 1 : Nat) : Int) - 1) = ((0 + D.count 47 : Nat) : Int) := by rw [wrap_pred (by omega) (by omega)]; congr 1; omega
  rw [hw3, Int.toNat_natCast, List.length_replicate]
  have := split47 (D.count 47) 0 D (List.replicate (D.count 47 + 1) noS) (by omega) rfl (by simp)
  simp only [List.take_zero, List.nil_append] at this
  rw [show 0 + D.count 47 + 1 = D.count 47 + 1 by omega] at this
  have this : strings_genSplit_L11.s (ba D) sl 0 ((0 + D.count 47 : Nat) : Int) (D.count 47 + 1) (0 : Int) (List.replicate (D.count 47 + 1) noS) = _ := this
  rw [this]; rfl
/-! #### names -/
def nbP (c : Int) : Prop := 97 ≤ c ∧ c ≤ 122 ∨ 48 ≤ c ∧ c ≤ 57 ∨ c = 46 ∨ c = 95 ∨ c = 45
instance (c : Int) : Decidable (nbP c) := by unfold nbP; infer_instance
theorem spec_nb (c : Int) : spec_l6NameByte.s c = some (decide (nbP c)) := by
  rw [spec_l6NameByte.e]
  by_cases hn : nbP c
  · rw [decide_eq_true hn]
    unfold nbP at hn
    repeat' split
    all_goals first | rfl | (exfalso; omega) | (congr 1; rw [beq_iff_eq]; omega)
  · rw [decide_eq_false hn]
    unfold nbP at hn
    repeat' split
    all_goals first | rfl | (exfalso; omega) | (congr 1; rw [beq_eq_false_iff_ne]; omega)
theorem impl_nb (xs : ByteArray) (n i : Int) (h : i < n) (h0 : 0 ≤ i ∧ i < (xs.size : Int)) : impl_NameFault_L4.s xs n i = if nbP (byteAt xs i.toNat) then impl_NameFault_L4.s xs n (IntKind.i64.wrap (i + 1)) else some 1 := by
  conv => lhs; rw [impl_NameFault_L4.e, if_pos h, if_pos h0]
  generalize byteAt xs i.toNat = c
  generalize impl_NameFault_L4.s xs n (IntKind.i64.wrap (i + 1)) = v
  by_cases hn : nbP c
  · rw [if_pos hn]
    unfold nbP at hn
    repeat' split
    all_goals first | rfl | (exfalso; omega)
  · rw [if_neg hn]
    unfold nbP at hn
    repeat' split
    all_goals first | rfl | (exfalso; omega)
theorem name_loop (s : ByteArray) (hs : s.size ≤ 1048576) : ∀ (k i : Nat), i + k = s.size → ∃ r, spec_NameFault_L4.s s i = some r ∧ impl_NameFault_L4.s s s.size i = some r
  | 0, i, h => ⟨0, by rw [spec_NameFault_L4.e, if_neg (by omega)], by rw [impl_NameFault_L4.e, if_neg (by omega)]⟩
  | k + 1, i, h => by
    rw [spec_NameFault_L4.e, if_pos (by omega), if_pos (by omega), spec_nb, Option.bind_some, impl_nb _ _ _ (by omega) (by omega), wrap_succ (by omega)]
    by_cases hn : nbP (byteAt s (i : Int).toNat)
    · rw [if_pos (decide_eq_true hn), if_pos hn]
      exact name_loop s hs k (i + 1) (by omega)
    · rw [if_neg (by simpa using hn), if_neg hn]
      exact ⟨_, rfl, rfl⟩
theorem name_ex (s : ByteArray) : ∃ r, spec_NameFault.s s = some r ∧ impl_NameFault.s s = some r := by
  rw [spec_NameFault.e, impl_NameFault.e]
  by_cases h1 : (s.size : Int) < 1
  · rw [if_pos h1, if_pos h1]; exact ⟨_, rfl, rfl⟩
  rw [if_neg h1, if_neg h1]
  by_cases h2 : (s.size : Int) > 12
  · rw [if_pos h2, if_pos h2]; exact ⟨_, rfl, rfl⟩
  rw [if_neg h2, if_neg h2]
  by_cases h3 : s = ByteArray.mk #[(46 : UInt8)]
  · rw [if_pos h3, if_pos h3]; exact ⟨_, rfl, rfl⟩
  rw [if_neg h3, if_neg h3]
  by_cases h4 : s = ByteArray.mk #[(46 : UInt8), (46 : UInt8)]
  · rw [if_pos h4, if_pos h4]; exact ⟨_, rfl, rfl⟩
  rw [if_neg h4, if_neg h4]
  exact name_loop s (by omega) s.size 0 (by omega)
noncomputable def nf (s : ByteArray) : Int := (spec_NameFault.s s).getD 0
theorem spec_nf (s : ByteArray) : spec_NameFault.s s = some (nf s) := by obtain ⟨r, h, _⟩ := name_ex s; unfold nf; rw [h]; rfl
theorem impl_nf (s : ByteArray) : impl_NameFault.s s = some (nf s) := by obtain ⟨r, h, h'⟩ := name_ex s; unfold nf; rw [h, h']; rfl
/-! #### paths -/
noncomputable def okN (l : List ByteArray) : Bool := l.all fun x => decide (nf x = 0)
theorem path_spec (l : List ByteArray) (hl : l.length ≤ 1048577) : ∀ (k i : Nat), i + k = l.length → spec_PathFault_L5.s l i = some (if okN (l.drop i) = true then 0 else 1)
  | 0, i, h => by rw [spec_PathFault_L5.e, if_neg (by omega), List.drop_eq_nil_of_le (by omega)]; rfl
  | k + 1, i, h => by
    have hi : i < l.length := by omega
    rw [spec_PathFault_L5.e]
    simp (disch := omega) only [if_pos, spec_nf, Option.bind_some, Int.toNat_natCast, nth_at (t := .str) hi, wrap_succ, path_spec l hl k (i + 1)]
    rw [List.drop_eq_getElem_cons hi]
    unfold okN
    rw [List.all_cons]
    by_cases hn : nf l[i] = 0
    · rw [if_pos hn, decide_eq_true hn, Bool.true_and]
    · rw [if_neg hn, decide_eq_false hn, Bool.false_and]; rfl
theorem path_impl (l : List ByteArray) (hl : l.length ≤ 1048577) : ∀ (k i : Nat), i + k = l.length → ∃ r, slices_IndexFunc___string_string__L2.s l l.length i = some r ∧ decide (r ≥ 0) = !okN (l.drop i)
  | 0, i, h => ⟨-1, by rw [slices_IndexFunc___string_string__L2.e, if_neg (by omega)], by rw [List.drop_eq_nil_of_le (by omega)]; rfl⟩
  | k + 1, i, h => by
    have hi : i < l.length := by omega
    obtain ⟨r, h1, h2⟩ := path_impl l hl k (i + 1) (by omega)
    rw [slices_IndexFunc___string_string__L2.e]
    simp (disch := omega) only [if_pos, impl_PathFault_1.e, impl_nf, Option.bind_some, Int.toNat_natCast, nth_at (t := .str) hi, wrap_succ]
    rw [List.drop_eq_getElem_cons hi]
    unfold okN
    rw [List.all_cons]
    by_cases hn : nf l[i] = 0
    · rw [if_neg (by simpa using hn), decide_eq_true hn, Bool.true_and]
      exact ⟨r, h1, h2⟩
    · rw [if_pos (by simpa using hn), decide_eq_false hn, Bool.false_and]
      exact ⟨_, rfl, by simp⟩
noncomputable def pf (s : ByteArray) : Int := if ((partsL s).length : Int) > 4 then 1 else if okN (partsL s) = true then 0 else 1
theorem spec_pf (s : ByteArray) (h : s.size ≤ 1048576) : spec_PathFault.s s = some (pf s) := by
  rw [spec_PathFault.e, spec_parts s h, Option.bind_some]
  have hl := partsL_len s
  unfold pf
  have := path_spec (partsL s) (by omega) (partsL s).length 0 (by omega)
  rw [show (0 : Int) = ((0 : Nat) : Int) from rfl, this, List.drop_zero]
  split <;> rfl
theorem impl_pf (s : ByteArray) (h : s.size ≤ 1048576) : impl_PathFault.s s = some (pf s) := by
  rw [impl_PathFault.e, impl_split s h, Option.bind_some]
  have hl := partsL_len s
  obtain ⟨r, h1, h2⟩ := path_impl (partsL s) (by omega) (partsL s).length 0 (by omega)
  have h1 : slices_IndexFunc___string_string__L2.s (partsL s) (partsL s).length (0 : Int) = some r := h1
  rw [slices_ContainsFunc___string_string_.e, slices_IndexFunc___string_string_.e, h1, Option.bind_some, Option.bind_some, h2, List.drop_zero]
  unfold pf
  cases okN (partsL s) <;> (simp only [Bool.not_true, Bool.not_false, if_true, Bool.false_eq_true, if_false]; split <;> rfl)
theorem pf_cases (s : ByteArray) : pf s = 0 ∨ pf s = 1 := by
  unfold pf
  split
  · exact .inr rfl
  · split
    · exact .inl rfl
    · exact .inr rfl
/-! #### names of objects -/
def hxP (c : Int) : Prop := 48 ≤ c ∧ c ≤ 57 ∨ 97 ≤ c ∧ c ≤ 102
instance (c : Int) : Decidable (hxP c) := by unfold hxP; infer_instance
def hx (b : UInt8) : Bool := decide (hxP (b.toNat : Int))
theorem id_step (s : ByteArray) (i : Int) (h : i < 5) (h0 : 0 ≤ i ∧ i < (s.size : Int)) : spec_IsId_L4.s s i = if hxP (byteAt s i.toNat) then spec_IsId_L4.s s (IntKind.i64.wrap (i + 1)) else some false := by
  conv => lhs; rw [spec_IsId_L4.e, if_pos h, if_pos h0]
  generalize byteAt s i.toNat = c
  generalize spec_IsId_L4.s s (IntKind.i64.wrap (i + 1)) = v
  by_cases hn : hxP c
  · rw [if_pos hn]
    unfold hxP at hn
    repeat' split
    all_goals first | rfl | (exfalso; omega)
  · rw [if_neg hn]
    unfold hxP at hn
    repeat' split
    all_goals first | rfl | (exfalso; omega)
theorem id_loop (D : List UInt8) (hD : D.length = 5) : ∀ (k i : Nat), i + k = 5 → spec_IsId_L4.s (ba D) i = some ((D.drop i).all hx)
  | 0, i, h => by rw [spec_IsId_L4.e, if_neg (by omega), List.drop_eq_nil_of_le (by omega)]; rfl
  | k + 1, i, h => by
    have hi : i < D.length := by omega
    rw [id_step _ _ (by omega) (by rw [ba_size]; omega), wrap_succ (by omega), id_loop D hD k (i + 1) (by omega), Int.toNat_natCast, ba_byte hi, List.drop_eq_getElem_cons hi, List.all_cons]
    by_cases hn : hxP ((D[i].toNat : Nat) : Int)
    · rw [if_pos hn]; unfold hx; rw [decide_eq_true hn, Bool.true_and]
    · rw [if_neg hn]; unfold hx; rw [decide_eq_false hn, Bool.false_and]
def hexL : List UInt8 := [48, 49, 50, 51, 52, 53, 54, 55, 56, 57, 97, 98, 99, 100, 101, 102]
theorem hx_fin : ∀ n : _root_.Fin 256, hexL.contains (UInt8.ofNat n.val) = hx (UInt8.ofNat n.val) := by decide +kernel
theorem hx_cut (b : UInt8) : hexL.contains b = hx b := by
  have := hx_fin ⟨b.toNat, b.toNat_lt⟩
  simpa using this
theorem trim_nil (l cs : List UInt8) : Go.Lib.trimS l cs = [] ↔ (l.all fun b => cs.contains b) = true := by
  unfold Go.Lib.trimS Go.Lib.trimLeftS Go.Lib.trimRightS
  constructor
  · intro h
    have h1 : ∀ x ∈ (l.reverse.dropWhile (cs.contains ·)).reverse, cs.contains x = true := by
      intro x hx
      generalize (l.reverse.dropWhile (cs.contains ·)).reverse = m at h hx
      induction m with
      | nil => cases hx
      | cons a t ih =>
        rw [List.dropWhile_cons] at h
        split at h
        · rename_i ha
          rcases List.mem_cons.1 hx with rfl | hx
          · exact ha
          · exact ih h hx
        · cases h
    have h2 : l.reverse.dropWhile (cs.contains ·) = [] := by
      cases hd : l.reverse.dropWhile (cs.contains ·) with
      | nil => rfl
      | cons a t =>
        exfalso
        have ha := h1 a (by rw [hd]; simp)
        have hh := List.head?_dropWhile_not (cs.contains ·) l.reverse
        rw [hd] at hh
        simp only [List.head?_cons] at hh
        rw [ha] at hh
        cases hh
    have h3 : ∀ (m : List UInt8), m.dropWhile (cs.contains ·) = [] → ∀ x ∈ m, cs.contains x = true := by
      intro m
      induction m with
      | nil => intro _ x hx; cases hx
      | cons a t ih =>
        intro h x hx
        rw [List.dropWhile_cons] at h
        split at h
        · rename_i ha
          rcases List.mem_cons.1 hx with rfl | hx
          · exact ha
          · exact ih h x hx
        · cases h
    rw [List.all_eq_true]
    exact fun x hx => h3 _ h2 x (by simpa using hx)
  · intro h
    have h2 : l.reverse.dropWhile (cs.contains ·) = [] := by
      rw [List.all_eq_true] at h
      have : ∀ m : List UInt8, (∀ x ∈ m, cs.contains x = true) → m.dropWhile (cs.contains ·) = [] := by
        intro m
        induction m with
        | nil => intro _; rfl
        | cons a t ih =>
          intro h
          rw [List.dropWhile_cons, if_pos (h a (by simp))]
          exact ih fun x hx => h x (by simp [hx])
      exact this _ fun x hx => h x (by simpa using hx)
    rw [h2]; rfl
def hexC : ByteArray := ByteArray.mk #[(48 : UInt8), (49 : UInt8), (50 : UInt8), (51 : UInt8), (52 : UInt8), (53 : UInt8), (54 : UInt8), (55 : UInt8), (56 : UInt8), (57 : UInt8), (97 : UInt8), (98 : UInt8), (99 : UInt8), (100 : UInt8), (101 : UInt8), (102 : UInt8)]
theorem trim_hex (l : List UInt8) : ((trimB (ba l) hexC).toList == noS.toList) = l.all hx := by
  rw [Bool.eq_iff_iff, beq_iff_eq, noS_toList]
  have e : (trimB (ba l) hexC).toList = Go.Lib.trimS l hexL := ba_toList _
  rw [e, trim_nil]
  simp only [hx_cut]
def btc : ByteArray := ByteArray.mk #[(98 : UInt8), (116 : UInt8), (99 : UInt8)]
def isL (a : UInt8) : Bool := a == 98 || a == 116 || a == 99
theorem isL_fin : ∀ n : _root_.Fin 256, decide (Go.Lib.indexByte [98, 116, 99] (UInt8.ofNat n.val) < 0) = !isL (UInt8.ofNat n.val) := by decide +kernel
theorem isL_ix (a : UInt8) : decide (Go.Lib.indexByte [98, 116, 99] a < 0) = !isL a := by
  have := isL_fin ⟨a.toNat, a.toNat_lt⟩
  simpa using this
def isId (s : ByteArray) : Bool := s.data.toList.length == 5 && isL (s.data.toList.headD 0) && (s.data.toList.drop 1).all hx
theorem byte_eqc (b c : UInt8) : ((b.toNat : Int) = (c.toNat : Int)) ↔ b = c := by
  constructor
  · intro h; exact UInt8.toNat_inj.1 (by omega)
  · rintro rfl; rfl
theorem spec_isId (s : ByteArray) : spec_IsId.s s = some (isId s) := by
  have hsz : s.size = s.data.toList.length := Go.Lib.size_eq s
  rw [spec_IsId.e]
  unfold isId
  by_cases h5 : s.data.toList.length = 5
  · rw [if_pos (by omega)]
    generalize hD : s.data.toList = D at h5
    have hs : s = ba D := by rw [← hD, ba_self]
    subst hs
    have hlp := id_loop D h5 4 1 rfl
    have hlp : spec_IsId_L4.s (ba D) (1 : Int) = some ((D.drop 1).all hx) := hlp
    have hb : byteAt (ba D) (Int.toNat (0 : Int)) = ((D.headD 0).toNat : Int) := by
      rw [show Int.toNat (0 : Int) = 0 from rfl, ba_byte (by omega)]
      cases D with
      | nil => cases h5
      | cons a t => rfl
    have e5 : (D.length == 5) = true := by rw [h5]; rfl
    have hp : (0 : Int) ≤ 0 ∧ (0 : Int) < ((ba D).size : Int) := by rw [ba_size]; omega
    simp only [if_pos hp]
    rw [hlp, hb, e5, Bool.true_and]
    unfold isL
    generalize D.headD 0 = a
    have c1 : ((a.toNat : Int) = 98) ↔ a = 98 := byte_eqc a 98
    have c2 : ((a.toNat : Int) = 116) ↔ a = 116 := byte_eqc a 116
    have c3 : ((a.toNat : Int) = 99) ↔ a = 99 := byte_eqc a 99
    simp only [c1, c2, c3]
    by_cases a1 : a = 98
    · rw [if_pos a1, a1]; rfl
    rw [if_neg a1]
    by_cases a2 : a = 116
    · rw [if_pos a2, a2]; rfl
    rw [if_neg a2]
    by_cases a3 : a = 99
    · rw [if_pos a3, a3]; rfl
    · rw [if_neg a3, beq_eq_false_iff_ne.2 a1, beq_eq_false_iff_ne.2 a2, beq_eq_false_iff_ne.2 a3]; rfl
  · rw [if_neg (by omega), beq_eq_false_iff_ne.2 h5]; rfl
theorem impl_isId (s : ByteArray) : impl_IsId.s s = some (isId s) := by
  have hsz : s.size = s.data.toList.length := Go.Lib.size_eq s
  rw [impl_IsId.e]
  unfold isId
  by_cases h5 : s.data.toList.length = 5
  · rw [if_pos (by omega)]
    generalize hD : s.data.toList = D at h5
    have hs : s = ba D := by rw [← hD, ba_self]
    subst hs
    have hb : byteAt (ba D) (Int.toNat (0 : Int)) = ((D.headD 0).toNat : Int) := by
      rw [show Int.toNat (0 : Int) = 0 from rfl, ba_byte (by omega)]
      cases D with
      | nil => cases h5
      | cons a t => rfl
    have e5 : (D.length == 5) = true := by rw [h5]; rfl
    have ex : (ba D).extract (Int.toNat (1 : Int)) (ba D).size = ba (D.drop 1) := by
      rw [ba_size, show Int.toNat (1 : Int) = 1 from rfl, ba_extract]
      rw [List.take_of_length_le (by simp)]
    have hi : strings_IndexByte.s (ByteArray.mk #[(98 : UInt8), (116 : UInt8), (99 : UInt8)]) ((D.headD 0).toNat : Int) = some (Go.Lib.indexByte [98, 116, 99] (D.headD 0)) := by
      rw [strings_IndexByte.e, stringslite_IndexByte.e, Option.bind_some]
      congr 2
      simp
    rw [if_pos (by rw [ba_size]; omega), hb, hi, ex, e5, Bool.true_and, Option.bind_some]
    have := isL_ix (D.headD 0)
    cases hl : isL (D.headD 0) with
    | true =>
      rw [hl] at this
      rw [if_neg (by simpa using this), if_pos (by rw [ba_size]; omega), if_pos (by rw [ba_size]; simp; omega)]
      have := trim_hex (D.drop 1)
      unfold hexC at this
      rw [this, Bool.true_and]
    | false =>
      rw [hl] at this
      rw [if_pos (by simpa using this)]; rfl
  · rw [if_neg (by omega), beq_eq_false_iff_ne.2 h5]; rfl
theorem letter1 : spec_l5Letter.s 1 = some (ba [98]) := by rw [spec_l5Letter.e, if_pos (by decide), if_pos (by decide)]; rfl
theorem letter2 : spec_l5Letter.s 2 = some (ba [116]) := by rw [spec_l5Letter.e, if_pos (by decide), if_pos (by decide)]; rfl
theorem letter3 : spec_l5Letter.s 3 = some (ba [99]) := by rw [spec_l5Letter.e, if_pos (by decide), if_pos (by decide)]; rfl
theorem isOf_gen (s : ByteArray) (k : Int) (c : UInt8) (h1 : spec_l5Letter.s k = some (ba [c])) (h2 : 1 ≤ k ∧ k ≤ 3) (h3 : byteAt btc (IntKind.i64.wrap (k - 1)).toNat = (c.toNat : Int)) :
    spec_l6Is.s s k = some (isId s && s.data.toList.headD 0 == c) ∧ impl_isIdOf.s k s = some (isId s && s.data.toList.headD 0 == c) := by
  rw [spec_l6Is.e, impl_isIdOf.e, spec_isId, impl_isId, Option.bind_some, Option.bind_some]
  cases hi : isId s with
  | false => exact ⟨rfl, rfl⟩
  | true =>
    have hsz : s.size = s.data.toList.length := Go.Lib.size_eq s
    have h5 : s.data.toList.length = 5 := by
      unfold isId at hi
      simp only [Bool.and_eq_true, beq_iff_eq] at hi
      exact hi.1.1
    generalize hD : s.data.toList = D at h5
    have hs : s = ba D := by rw [← hD, ba_self]
    subst hs
    cases D with
    | nil => cases h5
    | cons a t =>
      have ht : t.length = 4 := by simpa using h5
      have hw : IntKind.i64.wrap (k - 1) = k - 1 := wrap_id (by omega) (by omega)
      have hb : byteAt (ba (a :: t)) (Int.toNat (0 : Int)) = (a.toNat : Int) := rfl
      have hx : (ba (a :: t)).extract 0 (Int.toNat (1 : Int)) = ba [a] := by
        rw [show Int.toNat (1 : Int) = 1 from rfl, ba_extract]; rfl
      have hbs : ((btc.size : Nat) : Int) = 3 := rfl
      constructor
      · rw [if_pos rfl, if_pos (by rw [ba_size, List.length_cons]; omega), h1, Option.bind_some, hx, ba_toList, ba_toList]
        simp
      · rw [if_pos rfl, if_pos (by rw [ba_size, List.length_cons]; omega), if_pos (by show _ ∧ _ < ((btc.size : Nat) : Int); rw [hbs, hw]; omega)]
        show some (_ == byteAt btc _) = _
        rw [h3, hb, byte_eq]
        simp
def isB (s : ByteArray) : Bool := isId s && s.data.toList.headD 0 == 98
theorem spec_isB (s : ByteArray) : spec_l6Is.s s 1 = some (isB s) := (isOf_gen s 1 98 letter1 (by omega) rfl).1
theorem impl_isB (s : ByteArray) : impl_isIdOf.s 1 s = some (isB s) := (isOf_gen s 1 98 letter1 (by omega) rfl).2
def isM (k : Int) : Bool := decide (k = 1 ∨ k = 2)
theorem impl_m (k : Int) : impl_isFileMode.s k = some (isM k) := by
  rw [impl_isFileMode.e]; unfold isM
  by_cases h : k = 1
  · rw [if_pos h]; congr 1; symm; exact decide_eq_true (.inl h)
  · rw [if_neg h]; congr 1; rw [Bool.eq_iff_iff, beq_iff_eq, decide_eq_true_iff]; omega
theorem row_flat {t : Ty} {β γ : Type} {L : Int → List β → Option γ} {l : List t.den} {g : t.den → List β} (hg : ∀ x, (g x).length ≤ 1)
    (hs : ∀ (i : Nat) (hi : i < l.length) (m : List β), m.length ≤ i → L i m = L ((i + 1 : Nat) : Int) (m ++ g l[i])) :
    ∀ (k i : Nat) (m : List β), i + k = l.length → m.length ≤ i → L i m = L (l.length : Int) (m ++ (l.drop i).flatMap g)
  | 0, i, m, h, hm => by
    have hi : i = l.length := by omega
    subst hi
    rw [List.drop_length]; simp
  | k + 1, i, m, h, hm => by
    have hi : i < l.length := by omega
    have h1 := hg l[i]
    rw [hs i hi m hm, row_flat hg hs k (i + 1) (m ++ g l[i]) (by omega) (by rw [List.length_append]; omega), List.drop_eq_getElem_cons hi, List.flatMap_cons, List.append_assoc]
theorem row_flat0 {t : Ty} {β γ : Type} {L : Int → List β → Option γ} {l : List t.den} {g : t.den → List β} (hg : ∀ x, (g x).length ≤ 1)
    (hs : ∀ (i : Nat) (hi : i < l.length) (m : List β), m.length ≤ i → L i m = L ((i + 1 : Nat) : Int) (m ++ g l[i])) : L 0 [] = L (l.length : Int) (l.flatMap g) := by
  have := row_flat hg hs l.length 0 [] (by omega) (by simp)
  simpa using this
theorem row_first {t : Ty} {β : Type} {L : Int → Option β} {q : t.den → Bool} {r : t.den → β} {d : β} {l : List t.den}
    (h0 : L (l.length : Int) = some d) (h1 : ∀ (i : Nat) (hi : i < l.length), q l[i] = true → L i = some (r l[i])) (h2 : ∀ (i : Nat) (hi : i < l.length), q l[i] = false → L i = L ((i + 1 : Nat) : Int)) :
    ∀ (k i : Nat), i + k = l.length → L i = some (((l.drop i).find? q).elim d r)
  | 0, i, h => by
    have hi : i = l.length := by omega
    subst hi
    rw [h0, List.drop_length]; rfl
  | k + 1, i, h => by
    have hi : i < l.length := by omega
    rw [List.drop_eq_getElem_cons hi, List.find?_cons]
    cases hq : q l[i] with
    | true => rw [h1 i hi hq]; rfl
    | false => rw [h2 i hi hq]; exact row_first h0 h1 h2 k (i + 1) (by omega)
theorem row_first0 {t : Ty} {β : Type} {L : Int → Option β} {q : t.den → Bool} {r : t.den → β} {d : β} {l : List t.den}
    (h0 : L (l.length : Int) = some d) (h1 : ∀ (i : Nat) (hi : i < l.length), q l[i] = true → L i = some (r l[i])) (h2 : ∀ (i : Nat) (hi : i < l.length), q l[i] = false → L i = L ((i + 1 : Nat) : Int)) :
    L 0 = some ((l.find? q).elim d r) := by
  have := row_first h0 h1 h2 l.length 0 (by omega)
  simpa using this
theorem one_len {β : Type} {c : Bool} {x : β} : (bif c then [x] else []).length ≤ 1 := by cases c <;> simp
def slB : ByteArray := ByteArray.mk #[(47 : UInt8)]
def inD (a b : ByteArray) : Bool := decide (a.size > b.size + 1) && ((a.extract 0 (b.size + 1)).toList == (b ++ slB).toList)
theorem inDir_all (a b : ByteArray) (hb : b.size ≤ 1048576) : spec_InDir.s a b = some (inD a b) ∧ impl_InDir.s a b = some (inD a b) := by
  have hw : IntKind.i64.wrap ((b.size : Int) + 1) = ((b.size + 1 : Nat) : Int) := wrap_succ (by omega)
  have s1 : (ByteArray.mk #[(47 : UInt8)]).size = 1 := rfl
  have e2 : (b ++ ByteArray.mk #[(47 : UInt8)]).size = b.size + 1 := by rw [ByteArray.size_append, s1]
  have es : slB = ByteArray.mk #[(47 : UInt8)] := rfl
  rw [spec_InDir.e, impl_InDir.e, hw]
  unfold inD
  rw [es]
  by_cases h : (a.size : Int) > ((b.size + 1 : Nat) : Int)
  · have h' : a.size > b.size + 1 := by omega
    simp (disch := omega) only [if_pos h, if_pos, s1, Int.toNat_natCast, strings_HasPrefix.e, stringslite_HasPrefix.e, e2, Option.bind_some, decide_eq_true h', Bool.true_and]
    refine ⟨?_, ?_⟩ <;> first | trivial | rfl
  · have h' : ¬ a.size > b.size + 1 := by omega
    rw [if_neg h, if_neg h, decide_eq_false h']
    exact ⟨rfl, rfl⟩
theorem find_any {β : Type} {q : β → Bool} (l : List β) : decide ((match l.findIdx? q with | some n => (n : Int) | none => -1) ≥ 0) = l.any q := by
  cases h : l.findIdx? q with
  | none =>
    have := List.findIdx?_eq_none_iff.1 h
    have h2 : l.any q = false := by rw [List.any_eq_false]; intro x hx; rw [this x hx]; simp
    rw [h2]; rfl
  | some n =>
    obtain ⟨h1, h2, _⟩ := List.findIdx?_eq_some_iff_getElem.1 h
    have : l.any q = true := by rw [List.any_eq_true]; exact ⟨_, List.getElem_mem h1, h2⟩
    rw [this]
    exact decide_eq_true (by show (n : Int) ≥ 0; omega)
def inAny (l : List T_File.den) (f : T_File.den) : Bool := l.any fun o => inD f.1 o.1
theorem impl_any (l : List T_File.den) (hl : l.length ≤ 1048576) (hp : ∀ e ∈ l, (e.1 : ByteArray).size ≤ 1048576) (c : T_File.den) : slices_ContainsFunc___impl_File_impl_File_.s l c = some (inAny l c) := by
  rw [slices_ContainsFunc___impl_File_impl_File_.e, slices_IndexFunc___impl_File_impl_File_.e]
  have := row_find0 (t := T_File) (L := fun i => slices_IndexFunc___impl_File_impl_File__L2.s l c (l.length : Int) i) (q := fun o => inD c.1 o.1) hl
    (by show slices_IndexFunc___impl_File_impl_File__L2.s l c _ _ = _; rw [slices_IndexFunc___impl_File_impl_File__L2.e, if_neg (by omega)])
    (fun i hi hq => by
      show slices_IndexFunc___impl_File_impl_File__L2.s l c _ _ = _
      rw [slices_IndexFunc___impl_File_impl_File__L2.e]
      simp (disch := omega) only [if_pos, Int.toNat_natCast, nth_at (t := T_File) hi]
      have h1 := (inDir_all c.1 (l[i] : T_File.den).1 (hp _ (List.getElem_mem hi))).2
      have h1 : impl_InDir.s (nth T_Object [c] 0).1 (l[i] : T_File.den).1 = _ := h1
      rw [h1, Option.bind_some]
      exact if_pos hq)
    (fun i hi hq => by
      show slices_IndexFunc___impl_File_impl_File__L2.s l c _ _ = slices_IndexFunc___impl_File_impl_File__L2.s l c _ _
      conv => lhs; rw [slices_IndexFunc___impl_File_impl_File__L2.e]
      simp (disch := omega) only [if_pos, Int.toNat_natCast, nth_at (t := T_File) hi, wrap_succ]
      have h1 := (inDir_all c.1 (l[i] : T_File.den).1 (hp _ (List.getElem_mem hi))).2
      have h1 : impl_InDir.s (nth T_Object [c] 0).1 (l[i] : T_File.den).1 = _ := h1
      rw [h1, Option.bind_some]
      exact if_neg (by rw [hq]; simp))
  have h0 : slices_IndexFunc___impl_File_impl_File__L2.s l c (l.length : Int) 0 = _ := this
  rw [h0, Option.bind_some]
  congr 1
  exact find_any l
theorem spec_dir_in (l : List T_File.den) (hl : l.length ≤ 1048576) (hp : ∀ e ∈ l, (e.1 : ByteArray).size ≤ 1048576) (i : Nat) (hi : i < l.length) : ∀ (m k : Nat), k + m = l.length →
    spec_FilesFault_L18.s l (i : Int) (k : Int) = if ((l.drop k).any fun o => inD (l[i] : T_File.den).1 o.1) = true then some 7 else spec_FilesFault_L15.s l ((i + 1 : Nat) : Int)
  | 0, k, h => by
    rw [spec_FilesFault_L18.e, if_neg (by omega), List.drop_eq_nil_of_le (by omega), wrap_succ (by omega)]; rfl
  | m + 1, k, h => by
    have hk : k < l.length := by omega
    rw [spec_FilesFault_L18.e]
    simp (disch := omega) only [if_pos, Int.toNat_natCast, nth_at (t := T_File) hi, nth_at (t := T_File) hk, wrap_succ, (inDir_all (l[i] : T_File.den).1 (l[k] : T_File.den).1 (hp _ (List.getElem_mem hk))).1, Option.bind_some]
    rw [List.drop_eq_getElem_cons hk, List.any_cons, spec_dir_in l hl hp i hi m (k + 1) (by omega)]
    cases inD (l[i] : T_File.den).1 (l[k] : T_File.den).1 <;> rfl
theorem dirs_all (l : List T_File.den) (hl : l.length ≤ 1048576) (hp : ∀ e ∈ l, (e.1 : ByteArray).size ≤ 1048576) : ∀ (m i : Nat), i + m = l.length →
    ∃ r, spec_FilesFault_L15.s l (i : Int) = some r ∧ impl_FilesFault_L14.s l l (l.length : Int) (i : Int) = some r
  | 0, i, h => ⟨0, by rw [spec_FilesFault_L15.e, if_neg (by omega)], by rw [impl_FilesFault_L14.e, if_neg (by omega)]⟩
  | m + 1, i, h => by
    have hi : i < l.length := by omega
    have h1 := spec_dir_in l hl hp i hi l.length 0 (by omega)
    have h1 : spec_FilesFault_L18.s l (i : Int) 0 = _ := h1
    rw [List.drop_zero] at h1
    rw [spec_FilesFault_L15.e, impl_FilesFault_L14.e, if_pos (by omega), if_pos (by omega), if_pos (by omega), h1, impl_FilesFault_L16.e, Int.toNat_natCast, nth_at (t := T_File) hi]
    have h2 := impl_any l hl hp l[i]
    have h2 : slices_ContainsFunc___impl_File_impl_File_.s l ((l[i] : T_File.den).1, (l[i] : T_File.den).2.1, (l[i] : T_File.den).2.2.1, ()) = _ := h2
    rw [h2, Option.bind_some, wrap_succ (by omega)]
    unfold inAny
    cases l.any fun o => inD (l[i] : T_File.den).1 o.1
    · exact dirs_all l hl hp m (i + 1) (by omega)
    · exact ⟨_, rfl, rfl⟩
theorem files_loop (l : List T_File.den) (hl : l.length ≤ 1048576) (hp : ∀ e ∈ l, (e.1 : ByteArray).size ≤ 1048576) : ∀ (m i : Nat), i + m = l.length →
    ∃ r, spec_FilesFault_L4.s l (i : Int) = some r ∧ impl_FilesFault_L4.s l l (l.length : Int) (i : Int) = some r
  | 0, i, h => by
    obtain ⟨r, h1, h2⟩ := dirs_all l hl hp l.length 0 (by omega)
    exact ⟨r, by rw [spec_FilesFault_L4.e, if_neg (by omega)]; exact h1, by rw [impl_FilesFault_L4.e, if_neg (by omega)]; exact h2⟩
  | m + 1, i, h => by
    have hi : i < l.length := by omega
    have hsz := hp _ (List.getElem_mem hi)
    have hib : i < 4611686018427387904 := by omega
    have c1 : ((i : Nat) : Int) < (l.length : Int) := by omega
    have c2 : 0 ≤ ((i : Nat) : Int) ∧ ((i : Nat) : Int) < (l.length : Int) := by omega
    have rec_ := files_loop l hl hp m (i + 1) (by omega)
    rw [spec_FilesFault_L4.e, impl_FilesFault_L4.e, if_pos c1, if_pos c2, if_pos c1, if_pos c2]
    simp only [Int.toNat_natCast, nth_at (t := T_File) hi, wrap_succ hib, spec_pf _ hsz, impl_pf _ hsz, Option.bind_some, impl_m, spec_isB, impl_isB]
    have hpc := pf_cases (l[i] : T_File.den).1
    by_cases h1 : pf (l[i] : T_File.den).1 = 0
    rotate_left
    · rw [if_neg h1, if_neg h1]
      exact ⟨_, rfl, by congr 1; omega⟩
    rw [if_pos h1, if_pos h1]
    have tail : ∀ A : Option Int, ∃ r, A = some r → True := fun _ => ⟨0, fun _ => trivial⟩
    by_cases h3 : isM (l[i] : T_File.den).2.1 = true
    rotate_left
    · rw [if_neg h3]
      have hne : ¬ ((l[i] : T_File.den).2.1 = 1 ∨ (l[i] : T_File.den).2.1 = 2) := fun e => h3 (decide_eq_true e)
      rw [if_neg (fun e => hne (.inl e)), if_neg (fun e => hne (.inr e))]
      exact ⟨_, rfl, rfl⟩
    rw [if_pos h3]
    have hm := of_decide_eq_true h3
    by_cases h4 : isB (l[i] : T_File.den).2.2.1 = true
    rotate_left
    · refine ⟨1, ?_, by rw [if_neg h4]⟩
      rw [if_neg h4]
      rcases hm with hm | hm
      · rw [if_pos hm]
      · rw [if_neg (fun e => by rw [e] at hm; cases hm), if_pos hm]
    simp only [if_pos h4]
    have e1 : ∀ (A : Option Int), (if (l[i] : T_File.den).2.1 = 1 then A else if (l[i] : T_File.den).2.1 = 2 then A else some 3) = A := by
      intro A
      rcases hm with hm | hm
      · rw [if_pos hm]
      · rw [if_neg (fun e => by rw [e] at hm; cases hm), if_pos hm]
    rw [e1]
    by_cases h0 : (i : Int) > 0
    rotate_left
    · rw [if_neg h0, if_neg h0]; exact rec_
    have hi1 : i - 1 < l.length := by omega
    rw [if_pos h0, if_pos h0]
    simp (disch := omega) only [if_pos, wrap_pred, Int.toNat_natCast, nth_at (t := T_File) hi1]
    split
    · exact ⟨_, rfl, rfl⟩
    · exact rec_
theorem filesFault_all (l : List T_File.den) (hl : l.length ≤ 1048576) (hp : ∀ e ∈ l, (e.1 : ByteArray).size ≤ 1048576) : ∃ r, spec_FilesFault.s l = some r ∧ impl_FilesFault.s l = some r := by
  rw [spec_FilesFault.e, impl_FilesFault.e]
  by_cases h : (l.length : Int) > 60
  · rw [if_pos h, if_pos h]; exact ⟨_, rfl, rfl⟩
  · rw [if_neg h, if_neg h]
    exact files_loop l hl hp l.length 0 (by omega)
def hasB (l : List T_Object.den) (f : List T_File.den) : Bool := f.all fun x => (getO l 1 x.2.2.1).2
theorem spec_blobs_s (l : List T_Object.den) (hl : l.length ≤ 1048576) (f : List T_File.den) (hf : f.length ≤ 1048576) : ∀ (k i : Nat), i + k = f.length → spec_l11Blobs_L2.s l f i = some ((f.drop i).all fun x => (getO l 1 x.2.2.1).2)
  | 0, i, h => by rw [spec_l11Blobs_L2.e, if_neg (by omega), List.drop_eq_nil_of_le (by omega)]; rfl
  | k + 1, i, h => by
    have hi : i < f.length := by omega
    rw [spec_l11Blobs_L2.e]
    simp (disch := omega) only [if_pos, spec_get_s l hl, Option.bind_some, Int.toNat_natCast, nth_at hi, wrap_succ, spec_blobs_s l hl f hf k (i + 1)]
    rw [List.drop_eq_getElem_cons hi, List.all_cons]
    cases hc : (getO l 1 (f[i] : T_File.den).2.2.1).2 with
    | true => simp
    | false => simp
theorem file_ext {x y : T_File.den} : (x.1 = y.1 ∧ x.2.1 = y.2.1 ∧ x.2.2.1 = y.2.2.1) ↔ x = y := by
  constructor
  · intro h
    obtain ⟨a, b, c, d⟩ := x
    obtain ⟨a', b', c', d'⟩ := y
    obtain ⟨h1, h2, h3⟩ := h
    have h1 : a = a' := h1
    have h2 : b = b' := h2
    have h3 : c = c' := h3
    subst h1; subst h2; subst h3
    rfl
  · rintro rfl; exact ⟨rfl, rfl, rfl⟩
noncomputable def mk_ (b o t : T_File.den) : Int := open Classical in if o = t then 0 else if t = b then 1 else if o = b then 2 else if zeroF o then 4 else if zeroF t then 4 else 3
theorem spec_mk (b o t : T_File.den) : spec_MergeKind.s b o t = some (mk_ b o t) := by
  rw [spec_MergeKind.e]
  unfold mk_
  by_cases h1 : o = t
  · rw [if_pos (file_ext.2 h1), if_pos h1]
  rw [if_neg (fun k => h1 (file_ext.1 k)), if_neg h1]
  by_cases h2 : t = b
  · rw [if_pos (file_ext.2 h2), if_pos h2]
  rw [if_neg (fun k => h2 (file_ext.1 k)), if_neg h2]
  by_cases h3 : o = b
  · rw [if_pos (file_ext.2 h3), if_pos h3]
  rw [if_neg (fun k => h3 (file_ext.1 k)), if_neg h3]
  by_cases h4 : zeroF o
  · have h4' : o.1 = noS ∧ o.2.1 = 0 ∧ o.2.2.1 = noS := h4
    rw [if_pos h4', if_pos h4]
  have h4' : ¬ (o.1 = noS ∧ o.2.1 = 0 ∧ o.2.2.1 = noS) := h4
  rw [if_neg h4', if_neg h4]
  by_cases h5 : zeroF t
  · have h5' : t.1 = noS ∧ t.2.1 = 0 ∧ t.2.2.1 = noS := h5
    rw [if_pos h5', if_pos h5]
  have h5' : ¬ (t.1 = noS ∧ t.2.1 = 0 ∧ t.2.2.1 = noS) := h5
  rw [if_neg h5', if_neg h5]
theorem zero_eq {x : T_File.den} (h : zeroF x) : x = zF := file_ext.1 ⟨h.1, h.2.1, h.2.2⟩
section
variable {s : List T_Object.den} (ho : OkStore s) {p : ByteArray} {b o t : T_File.den} (hp : OneP p b o t)
include ho hp
theorem spec_path : spec_l11Path.s s b o t = if mk_ b o t = 2 then some (setR s t) else if mk_ b o t = 3 then spec_l11Both.s s b o t else if mk_ b o t = 4 then some (clR s b o t p (if zeroF o then txO s t else txO s o)) else some (setR s o) := by
  rw [spec_l11Path.e, spec_mk, Option.bind_some]
  by_cases h2 : mk_ b o t = 2
  · rw [if_pos h2, if_pos h2]
    unfold setR
    by_cases hz : zeroF t
    · have hz' : t.1 = noS ∧ t.2.1 = 0 ∧ t.2.2.1 = noS := hz
      rw [if_pos hz', if_pos hz]
    · have hz' : ¬ (t.1 = noS ∧ t.2.1 = 0 ∧ t.2.2.1 = noS) := hz
      rw [if_neg hz', if_neg hz]; rfl
  rw [if_neg h2, if_neg h2]
  by_cases h3 : mk_ b o t = 3
  · rw [if_pos h3, if_pos h3]
    cases spec_l11Both.s s b o t <;> rfl
  rw [if_neg h3, if_neg h3]
  by_cases h4 : mk_ b o t = 4
  · rw [if_pos h4, if_pos h4, l11Text_s ho, Option.bind_some]
    unfold clR
    by_cases hz : zeroF o
    · have hz' : o.1 = noS ∧ o.2.1 = 0 ∧ o.2.2.1 = noS := hz
      have ht : ¬ zeroF t := fun k => by
        have e : o = t := (zero_eq hz).trans (zero_eq k).symm
        have : mk_ b o t = 0 := by unfold mk_; rw [if_pos e]
        rw [this] at h4; exact absurd h4 (by decide)
      rw [if_pos hz', if_pos hz, l11Text_s ho, Option.bind_some, spec_stages, Option.bind_some, fill1, hp.pt ht]
    · have hz' : ¬ (o.1 = noS ∧ o.2.1 = 0 ∧ o.2.2.1 = noS) := hz
      rw [if_neg hz', if_neg hz, spec_stages, Option.bind_some, fill1, hp.po hz]
  rw [if_neg h4, if_neg h4]
  unfold setR
  by_cases hz : zeroF o
  · have hz' : o.1 = noS ∧ o.2.1 = 0 ∧ o.2.2.1 = noS := hz
    rw [if_pos hz', if_pos hz]
  · have hz' : ¬ (o.1 = noS ∧ o.2.1 = 0 ∧ o.2.2.1 = noS) := hz
    rw [if_neg hz', if_neg hz]; rfl
theorem kind4 (h : mk_ b o t = 4) : ¬ zeroF o ∨ ¬ zeroF t := by
  by_cases k : zeroF o
  · right
    intro k2
    have e : o = t := (zero_eq k).trans (zero_eq k2).symm
    have : mk_ b o t = 0 := by unfold mk_; rw [if_pos e]
    rw [this] at h; exact absurd h (by decide)
  · exact .inl k
theorem kind3 (h : mk_ b o t = 3) : ¬ zeroF o ∧ ¬ zeroF t := by
  unfold mk_ at h
  split at h
  · exact absurd h (by decide)
  split at h
  · exact absurd h (by decide)
  split at h
  · exact absurd h (by decide)
  split at h
  · exact absurd h (by decide)
  split at h
  · exact absurd h (by decide)
  · exact ⟨by assumption, by assumption⟩
end
/-! #### the files checked -/
def nz (f : T_File.den) : Bool := !decide (zeroF f)
noncomputable def ff1 (f : T_File.den) : Int := (spec_FilesFault.s [f]).getD 0
theorem ff1_s (f : T_File.den) (h : szF f) : spec_FilesFault.s [f] = some (ff1 f) ∧ impl_FilesFault.s [f] = some (ff1 f) := by
  obtain ⟨r, h1, h2⟩ := filesFault_all [f] (by simp) (fun e he => by rw [List.mem_singleton.1 he]; exact h.1)
  unfold ff1
  rw [h1, h2]
  exact ⟨rfl, rfl⟩
noncomputable def chk (h : ByteArray) : List T_File.den → Int
  | [] => 0
  | f :: r => if ff1 f = 0 then (if f.1 = h then chk h r else 1) else ff1 f
theorem chkL_ok {h : ByteArray} : ∀ {L : List T_File.den}, chk h L = 0 → ∀ f ∈ L, f.1 = h
  | [], _, f, hf => by cases hf
  | g :: r, hc, f, hf => by
    unfold chk at hc
    split at hc
    · split at hc
      · rename_i h2
        rcases List.mem_cons.1 hf with rfl | hf
        · exact h2
        · exact chkL_ok hc f hf
      · exact absurd hc (by decide)
    · rename_i h1
      exact absurd hc h1
theorem spec_some_step (L : List T_File.den) (hL : L.length ≤ 3) (i : Nat) (hi : i < L.length) (m : List T_File.den) (hm : m.length ≤ 3) :
    spec_l11Some_L3.s L m.length (i : Int) m = spec_l11Some_L3.s L (m ++ [nth T_Object L i].filter nz).length ((i + 1 : Nat) : Int) (m ++ [nth T_Object L i].filter nz) := by
  conv => lhs; rw [spec_l11Some_L3.e]
  rw [if_pos (by omega), if_pos (by omega), Int.toNat_natCast, wrap_succ (by omega)]
  by_cases hz : zeroF (nth T_Object L i)
  · have hz' : (nth T_Object L i).1 = noS ∧ (nth T_Object L i).2.1 = 0 ∧ (nth T_Object L i).2.2.1 = noS := hz
    have e : [nth T_Object L i].filter nz = [] := by rw [List.filter_cons_of_neg (by unfold nz; simp [hz])]; rfl
    rw [if_pos hz', e, List.append_nil]
  · have hz' : ¬ ((nth T_Object L i).1 = noS ∧ (nth T_Object L i).2.1 = 0 ∧ (nth T_Object L i).2.2.1 = noS) := hz
    have e : [nth T_Object L i].filter nz = [nth T_Object L i] := by rw [List.filter_cons_of_pos (by unfold nz; simp [hz])]; rfl
    rw [if_neg hz', e, if_pos (by omega)]
    show (if m.length + [nth T_Object L i].length < 4294967296 then _ else _) = _
    rw [if_pos (by simp; omega)]
    rfl
theorem spec_some_s (b o t : T_File.den) : spec_l11Some.s [b, o, t] = some ([b, o, t].filter nz) := by
  rw [spec_l11Some.e]
  have lf : ∀ f : T_File.den, ([f].filter nz).length ≤ 1 := fun f => List.length_filter_le _ _
  have l1 := lf b
  have l2 := lf o
  have h0 : spec_l11Some_L3.s [b, o, t] 0 0 [] = spec_l11Some_L3.s [b, o, t] ([b].filter nz).length 1 ([b].filter nz) := spec_some_step [b, o, t] (by simp) 0 (by simp) [] (by simp)
  have h1 : spec_l11Some_L3.s [b, o, t] ([b].filter nz).length 1 ([b].filter nz) = spec_l11Some_L3.s [b, o, t] ([b].filter nz ++ [o].filter nz).length 2 ([b].filter nz ++ [o].filter nz) := spec_some_step [b, o, t] (by simp) 1 (by simp) _ (by omega)
  have h2 : spec_l11Some_L3.s [b, o, t] ([b].filter nz ++ [o].filter nz).length 2 ([b].filter nz ++ [o].filter nz) = spec_l11Some_L3.s [b, o, t] ([b].filter nz ++ [o].filter nz ++ [t].filter nz).length 3 ([b].filter nz ++ [o].filter nz ++ [t].filter nz) := spec_some_step [b, o, t] (by simp) 2 (by simp) _ (by rw [List.length_append]; omega)
  have e : [b].filter nz ++ [o].filter nz ++ [t].filter nz = [b, o, t].filter nz := by rw [← List.filter_append, ← List.filter_append]; rfl
  refine Eq.trans h0 (Eq.trans h1 (Eq.trans h2 ?_))
  rw [spec_l11Some_L3.e, if_neg (by simp), e]
theorem spec_files {s : List T_Object.den} (ho : OkStore s) (b o t : T_File.den) (F : List T_File.den) (hF : F.length ≤ 3) (hz : ∀ f ∈ F, szF f) (h : ByteArray) (h0 : ∀ (hi : 0 < F.length), (F[0] : T_File.den).1 = h) : ∀ (k i : Nat), i + k = F.length →
    spec_MergePath_L6.s s F (i : Int) b.1 b.2.1 b.2.2.1 o.1 o.2.1 o.2.2.1 t.1 t.2.1 t.2.2.1 0 = if chk h (F.drop i) = 0 then (if hasB s F = true then spec_l11Path.s s b o t else some ((4 : Int), [], [], [], ())) else some (chk h (F.drop i), [], [], [], ())
  | 0, i, he => by
    have hl := ho.len
    have hb := spec_blobs_s s (by omega) F (by omega) F.length 0 (by omega)
    rw [List.drop_zero] at hb
    rw [spec_MergePath_L6.e, if_neg (by omega), List.drop_eq_nil_of_le (by omega), spec_l11Blobs.e]
    have hb' : spec_l11Blobs_L2.s s F 0 = some (hasB s F) := hb
    rw [hb', Option.bind_some, if_pos (show chk h [] = 0 from rfl)]
    by_cases hc : hasB s F = true
    · rw [if_pos hc, if_pos hc, spec_copy5 s (by omega), Option.bind_some]
      show (spec_l11Path.s s b o t).bind _ = _
      cases spec_l11Path.s s b o t <;> rfl
    · rw [if_neg hc, if_neg hc]
  | k + 1, i, he => by
    have hi : i < F.length := by omega
    have hd := List.drop_eq_getElem_cons hi
    have ih := spec_files ho b o t F hF hz h h0 k (i + 1) (by omega)
    have hs1 : List.drop (i : Int).toNat (List.take ((i + 1 : Nat) : Int).toNat F) = [F[i]] := by
      rw [Int.toNat_natCast, Int.toNat_natCast, List.drop_take, hd, show i + 1 - i = 1 by omega]
      rfl
    have hff := (ff1_s F[i] (hz _ (List.getElem_mem hi))).1
    have hn : nth T_Object F (i : Int).toNat = F[i] := by rw [Int.toNat_natCast]; exact nth_at hi
    have hn0 : nth T_Object F (Int.toNat 0) = F[0] := nth_at (by omega : 0 < F.length)
    rw [spec_MergePath_L6.e, if_pos (by omega), wrap_succ (by omega), if_pos (by omega), if_pos (by omega), hs1, hff, Option.bind_some, hd]
    unfold chk
    by_cases h1 : ff1 F[i] = 0
    · rw [if_pos h1, if_pos h1, if_pos (by omega), if_pos (by omega), hn, hn0, h0 (by omega), ih]
      by_cases h2 : (F[i] : T_File.den).1 = h
      · rw [if_pos h2, if_pos h2]
      · rw [if_neg h2, if_neg h2]; rfl
    · rw [if_neg h1, if_neg h1, if_neg h1]
theorem impl_blobs_s {l : List T_Object.den} (ho : OkStore l) (f : List T_File.den) (hf : f.length ≤ 1048576) : impl_hasBlobs.s l f = some (hasB l f) := by
  rw [impl_hasBlobs.e, impl_hasBlobs_L1.e, slices_ContainsFunc___impl_File_impl_File__v1.e, slices_IndexFunc___impl_File_impl_File__v1.e]
  have hn : nth (Ty.sl T_Object) [l] (nat_lit 0) = l := rfl
  have := row_find0 (t := T_File) (L := fun i => slices_IndexFunc___impl_File_impl_File__v1_L2.s f l (f.length : Int) i) (q := fun x => !(getO l 1 x.2.2.1).2) (l := f) hf
    (by show slices_IndexFunc___impl_File_impl_File__v1_L2.s f l _ _ = _; rw [slices_IndexFunc___impl_File_impl_File__v1_L2.e, if_neg (by omega)])
    (fun i hi hq => by
      show slices_IndexFunc___impl_File_impl_File__v1_L2.s f l _ _ = _
      rw [slices_IndexFunc___impl_File_impl_File__v1_L2.e, hn]
      simp (disch := omega) only [if_pos, impl_get_s ho, Option.bind_some, Int.toNat_natCast, nth_at hi]
      rw [if_neg (by simpa using hq)])
    (fun i hi hq => by
      show slices_IndexFunc___impl_File_impl_File__v1_L2.s f l _ _ = slices_IndexFunc___impl_File_impl_File__v1_L2.s f l _ _
      conv => lhs; rw [slices_IndexFunc___impl_File_impl_File__v1_L2.e, hn]
      simp (disch := omega) only [if_pos, impl_get_s ho, Option.bind_some, Int.toNat_natCast, nth_at hi, wrap_succ]
      rw [if_pos (by simpa using hq)])
  rw [this, Option.bind_some, Option.bind_some]
  congr 1
  unfold hasB
  cases hx : List.findIdx? (fun x : T_File.den => !(getO l 1 x.2.2.1).2) f with
  | none =>
    rw [List.findIdx?_eq_none_iff] at hx
    have : (f.all fun x => (getO l 1 x.2.2.1).2) = true := by
      rw [List.all_eq_true]
      intro x hm
      have := hx x hm
      simpa using this
    rw [this]; rfl
  | some i =>
    rw [List.findIdx?_eq_some_iff_getElem] at hx
    obtain ⟨hi, hq, _⟩ := hx
    have : (f.all fun x => (getO l 1 x.2.2.1).2) = false := by
      rw [List.all_eq_false]
      exact ⟨_, List.getElem_mem hi, by simpa using hq⟩
    rw [this]; simp
theorem impl_mk (b o t : T_File.den) : impl_MergeKind.s b o t = some (mk_ b o t) := by
  rw [impl_MergeKind.e]
  unfold mk_
  by_cases h1 : o = t
  · rw [if_pos (file_ext.2 h1), if_pos h1]
  rw [if_neg (fun k => h1 (file_ext.1 k)), if_neg h1]
  by_cases h2 : t = b
  · rw [if_pos (file_ext.2 h2), if_pos h2]
  rw [if_neg (fun k => h2 (file_ext.1 k)), if_neg h2]
  by_cases h3 : o = b
  · rw [if_pos (file_ext.2 h3), if_pos h3]
  rw [if_neg (fun k => h3 (file_ext.1 k)), if_neg h3, isNone_s, isNone_s, Option.bind_some, Option.bind_some]
  by_cases h4 : zeroF o
  · rw [if_pos (decide_eq_true h4), if_pos h4]
  rw [if_neg (by simp [h4]), if_neg h4]
  by_cases h5 : zeroF t
  · rw [if_pos (decide_eq_true h5), if_pos h5]
  · rw [if_neg (by simp [h5]), if_neg h5]
theorem mk_cases (b o t : T_File.den) : mk_ b o t = 0 ∨ mk_ b o t = 1 ∨ mk_ b o t = 2 ∨ mk_ b o t = 3 ∨ mk_ b o t = 4 := by
  unfold mk_
  split
  · simp
  split
  · simp
  split
  · simp
  split
  · simp
  split <;> simp
theorem bind_id {α : Type} (x : Option α) : (x.bind fun r => some r) = x := by cases x <;> rfl
section
variable {s : List T_Object.den} (ho : OkStore s) {p : ByteArray} {b o t : T_File.den} (hp : OneP p b o t)
include ho hp
theorem impl_path : impl_mergePath.s s b o t = if mk_ b o t = 2 then some (setR s t) else if mk_ b o t = 3 then impl_mergeBoth.s s b o t else if mk_ b o t = 4 then some (clR s b o t p (if zeroF o then txO s t else txO s o)) else some (setR s o) := by
  have hl : s.length ≤ 1048576 := by have := ho.len; omega
  rw [impl_mergePath.e, impl_mk, Option.bind_some]
  simp only [bind_id, impl_settled_s s hl, isNone_s, blobOf_s ho, Option.bind_some]
  rcases mk_cases b o t with h | h | h | h | h
  · rw [h]; rfl
  · rw [h]; rfl
  · rw [h]; rfl
  · rw [h]; rfl
  · have hz := kind4 ho hp h
    rw [h]
    simp only [impl_clash_p hl hp _ hz]
    by_cases k : zeroF o
    · simp [k]
    · simp [k]
theorem path_all (hb : ∀ f ∈ [b, o, t], ¬ zeroF f → (getO s 1 f.2.2.1).2 = true) (zb : szF b) (zo : szF o) (zt : szF t) : ∃ R, spec_l11Path.s s b o t = some R ∧ impl_mergePath.s s b o t = some R ∧ SmallT R := by
  have htx : ∀ f : T_File.den, (txO s f).size ≤ 1048576 := fun f => by have := tf_size (getO_tf ho f.2.2.1); unfold txO; omega
  rw [spec_path ho hp, impl_path ho hp]
  rcases mk_cases b o t with h | h | h | h | h
  · rw [h]; exact ⟨_, rfl, rfl, smallT_set ho zo⟩
  · rw [h]; exact ⟨_, rfl, rfl, smallT_set ho zo⟩
  · rw [h]; exact ⟨_, rfl, rfl, smallT_set ho zt⟩
  · have hk := kind3 ho hp h
    rw [h]
    exact both_all ho hp hk.1 hk.2 (hb o (by simp) hk.1) (hb t (by simp) hk.2) zb zo zt
  · have hk := kind4 ho hp h
    rw [h]
    refine ⟨_, rfl, rfl, smallT_cl ho zb zo zt ?_ ?_⟩
    · rcases hk with hk | hk
      · rw [← hp.po hk]; exact zo.1
      · rw [← hp.pt hk]; exact zt.1
    · split
      · exact htx t
      · exact htx o
end
theorem impl_files {s : List T_Object.den} (ho : OkStore s) (b o t : T_File.den) (hz : ∀ f ∈ [b, o, t], szF f) (F : List T_File.den) (hF : F.length ≤ 3) (h : ByteArray) (h0 : ∀ (hi : 0 < F.length), (F[0] : T_File.den).1 = h) : ∀ (k i : Nat) (m : List T_File.den), i + k = 3 → m.length ≤ 3 → F = m ++ ([b, o, t].drop i).filter nz →
    impl_MergePath_L6.s s m.length b.1 b.2.1 b.2.2.1 o.1 o.2.1 o.2.2.1 t.1 t.2.1 t.2.2.1 (i : Int) b.1 b.2.1 b.2.2.1 o.1 o.2.1 o.2.2.1 t.1 t.2.1 t.2.2.1 0 m = if chk h (([b, o, t].drop i).filter nz) = 0 then (if hasB s F = true then impl_mergePath.s s b o t else some ((4 : Int), [], [], [], ())) else some (chk h (([b, o, t].drop i).filter nz), [], [], [], ())
  | 0, i, m, he, hm, hf => by
    have hi : i = 3 := by omega
    subst hi
    have e : ([b, o, t].drop 3).filter nz = [] := rfl
    rw [e, List.append_nil] at hf
    rw [e, if_pos (show chk h [] = 0 from rfl), impl_MergePath_L6.e, if_neg (by omega), ← hf, impl_blobs_s ho F (by omega), Option.bind_some]
    by_cases hc : hasB s F = true
    · rw [if_pos hc, if_pos hc]
      show (impl_mergePath.s s b o t).bind _ = _
      rw [bind_id]
    · rw [if_neg hc, if_neg hc]
  | k + 1, i, m, he, hm, hf => by
    have hi : i < [b, o, t].length := by simp; omega
    have hd := List.drop_eq_getElem_cons hi
    have hn : nth T_Object [b, o, t] (i : Int).toNat = [b, o, t][i] := by rw [Int.toNat_natCast]; exact nth_at hi
    have hff := (ff1_s [b, o, t][i] (hz _ (List.getElem_mem hi))).2
    rw [hd] at hf ⊢
    generalize ([b, o, t][i]'hi) = f at *
    conv => lhs; rw [impl_MergePath_L6.e]
    have e3 : ([(b.1, b.2.1, b.2.2.1, ()), (o.1, o.2.1, o.2.2.1, ()), (t.1, t.2.1, t.2.2.1, ())] : List T_Object.den) = [b, o, t] := rfl
    rw [if_pos (by omega), if_pos (by omega), wrap_succ (by omega), e3, hn, isNone_s, Option.bind_some]
    by_cases hzf : zeroF f
    · have e : (f :: [b, o, t].drop (i + 1)).filter nz = ([b, o, t].drop (i + 1)).filter nz := List.filter_cons_of_neg (by unfold nz; simp [hzf])
      rw [e] at hf ⊢
      rw [if_pos (decide_eq_true hzf)]
      exact impl_files ho b o t hz F hF h h0 k (i + 1) m (by omega) hm hf
    · have e : (f :: [b, o, t].drop (i + 1)).filter nz = f :: ([b, o, t].drop (i + 1)).filter nz := List.filter_cons_of_pos (by unfold nz; simp [hzf])
      rw [e] at hf ⊢
      have hf2 : F = (m ++ [f]) ++ ([b, o, t].drop (i + 1)).filter nz := by rw [hf]; simp
      have hlm : (m ++ [f]).length ≤ 3 := by
        have := congrArg List.length hf2
        rw [List.length_append] at this
        omega
      have ih := impl_files ho b o t hz F hF h h0 k (i + 1) (m ++ [f]) (by omega) hlm hf2
      have e1 : fillElems [((0 : Nat), (f.1, f.2.1, f.2.2.1, ()))] (List.replicate (1 : Nat) (noS, (0 : Int), noS, ())) = [f] := rfl
      have hm1 : m.length + [f].length < 4294967296 := by simp; omega
      rw [if_neg (by simp [hzf]), e1, hff, Option.bind_some]
      unfold chk
      by_cases hm0 : (m.length : Int) > 0
      · have hlt : 0 < m.length := by omega
        have n0 : nth T_Object m (Int.toNat 0) = m[0] := nth_at hlt
        have hh : (m[0] : T_File.den).1 = h := by
          have hFl : 0 < F.length := by rw [hf, List.length_append]; omega
          rw [← h0 hFl]
          have : F[0] = m[0] := by
            simp only [hf]
            rw [List.getElem_append_left hlt]
          rw [this]
        have hcb : (!(ByteArray.toList h == ByteArray.toList f.fst)) = decide (¬ f.1 = h) := by
          rw [Bool.eq_iff_iff]
          simp only [Bool.not_eq_true', beq_eq_false_iff_ne, decide_eq_true_eq, ne_eq]
          rw [Go.Lib.toList_data, Go.Lib.toList_data]
          constructor
          · intro k e; exact k (by rw [e])
          · intro k e; exact k (ba_ext e.symm)
        rw [if_pos hm0, if_pos (by omega), n0, hh, hcb, codeIf_s, Option.bind_some, firstCode2_s, Option.bind_some]
        by_cases h1 : ff1 f = 0
        · rw [if_pos h1, if_pos h1]
          by_cases h2 : f.1 = h
          · rw [decide_eq_false (by simp [h2]), if_pos h2]
            show (if (0 : Int) = 0 then _ else _) = _
            rw [if_pos rfl]
            refine (if_pos hm1).trans ?_
            exact ih
          · rw [decide_eq_true h2, if_neg h2]
            rfl
        · rw [if_neg h1, if_neg h1, if_neg h1, if_neg h1]
      · have hm' : m = [] := List.eq_nil_of_length_eq_zero (by omega)
        have h2 : f.1 = h := by
          have hFl : 0 < F.length := by rw [hf2, List.length_append, List.length_append, List.length_singleton]; omega
          rw [← h0 hFl]
          have : F[0] = f := by simp only [hf2, hm']; rfl
          rw [this]
        rw [if_neg hm0, codeIf_s, Option.bind_some, firstCode2_s, Option.bind_some]
        by_cases h1 : ff1 f = 0
        · rw [if_pos h1, if_pos h1, if_pos h2]
          show (if (0 : Int) = 0 then _ else _) = _
          rw [if_pos rfl]
          refine (if_pos hm1).trans ?_
          exact ih
        · rw [if_neg h1, if_neg h1, if_neg h1, if_neg h1]
theorem mergePath_all (x : List T_Object.den) (hx : x.length ≤ 1048576) (b o t : T_File.den) (zb : szF b) (zo : szF o) (zt : szF t) : ∃ R, spec_MergePath.s x b o t = some R ∧ impl_MergePath.s x b o t = some R ∧ SmallT R := by
  have hsf := storeFault_all x hx
  rw [spec_MergePath.e, impl_MergePath.e, hsf.1, hsf.2, Option.bind_some, Option.bind_some]
  by_cases h : storeFault x = 0
  rotate_left
  · rw [if_neg h, if_neg h]
    exact ⟨_, rfl, rfl, smallT_bad _⟩
  have ho := store_ok h hx
  have hz : ∀ f ∈ [b, o, t], szF f := fun f hf => by
    rcases List.mem_cons.1 hf with rfl | hf
    · exact zb
    · rcases List.mem_cons.1 hf with rfl | hf
      · exact zo
      · rw [List.mem_singleton.1 hf]; exact zt
  have hF : ([b, o, t].filter nz).length ≤ 3 := List.length_filter_le _ _
  have hzF : ∀ f ∈ [b, o, t].filter nz, szF f := fun f hf => hz f (List.mem_filter.1 hf).1
  obtain ⟨hh, h0⟩ : ∃ hh : ByteArray, ∀ (hi : 0 < ([b, o, t].filter nz).length), (([b, o, t].filter nz)[0] : T_File.den).1 = hh := by
    by_cases hi : 0 < ([b, o, t].filter nz).length
    · exact ⟨(([b, o, t].filter nz)[0] : T_File.den).1, fun _ => rfl⟩
    · exact ⟨noS, fun k => absurd k hi⟩
  have e3 : fillElems [((0 : Nat), (b.1, b.2.1, b.2.2.1, ())), ((1 : Nat), (o.1, o.2.1, o.2.2.1, ())), ((2 : Nat), (t.1, t.2.1, t.2.2.1, ()))] (List.replicate (3 : Nat) (noS, (0 : Int), noS, ())) = ([b, o, t] : List T_File.den) := rfl
  have hs := spec_files ho b o t _ hF hzF hh h0 ([b, o, t].filter nz).length 0 (by omega)
  have hi := impl_files ho b o t hz _ hF hh h0 3 0 [] (by omega) (by simp) (by rw [List.drop_zero, List.nil_append])
  rw [List.drop_zero] at hs hi
  have hs : spec_MergePath_L6.s x ([b, o, t].filter nz) 0 b.1 b.2.1 b.2.2.1 o.1 o.2.1 o.2.2.1 t.1 t.2.1 t.2.2.1 0 = _ := hs
  have hi : impl_MergePath_L6.s x 0 b.1 b.2.1 b.2.2.1 o.1 o.2.1 o.2.2.1 t.1 t.2.1 t.2.2.1 0 b.1 b.2.1 b.2.2.1 o.1 o.2.1 o.2.2.1 t.1 t.2.1 t.2.2.1 0 [] = _ := hi
  rw [if_pos h, if_pos h, e3, spec_some_s, Option.bind_some, hs, hi]
  by_cases hc : chk hh ([b, o, t].filter nz) = 0
  rotate_left
  · rw [if_neg hc, if_neg hc]
    exact ⟨_, rfl, rfl, smallT_bad _⟩
  rw [if_pos hc, if_pos hc]
  by_cases hb : hasB x ([b, o, t].filter nz) = true
  rotate_left
  · rw [if_neg hb, if_neg hb]
    exact ⟨_, rfl, rfl, smallT_bad _⟩
  rw [if_pos hb, if_pos hb]
  have hpath := chkL_ok hc
  have hin : ∀ f ∈ [b, o, t], ¬ zeroF f → f ∈ [b, o, t].filter nz := fun f hf hn => List.mem_filter.2 ⟨hf, by unfold nz; simp [hn]⟩
  have hp : OneP hh b o t := ⟨fun k => hpath b (hin b (by simp) k), fun k => hpath o (hin o (by simp) k), fun k => hpath t (hin t (by simp) k)⟩
  exact path_all ho hp (fun f hf hn => List.all_eq_true.1 hb f (hin f hf hn)) zb zo zt
end Go.Proofs.YtmojilihllhadaaGreatDoor.Ev
