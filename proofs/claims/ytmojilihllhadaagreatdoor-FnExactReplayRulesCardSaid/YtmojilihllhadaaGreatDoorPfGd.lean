/- PfPath, PfNames, PfIndex, PfRow, PfOne, PfStage0, PfStage, PfBlobs, PfSizes, PfPre, PfPreC. -/
import Derived.Test.YtmojilihllhadaaGreatDoorPfGa
import Derived.Lib.SlTrimSet
import Derived.Test.YtmojilihllhadaaGreatDoorPfGc
import Derived.Test.YtmojilihllhadaaGreatDoorPfGb
set_option linter.unusedVariables false
set_option linter.unusedSimpArgs false
namespace Go.Proofs.YtmojilihllhadaaGreatDoor.Ev
open Go
/-! #### the parts of a path -/
def prt : List UInt8 → List UInt8 → List (List UInt8)
  | cur, [] => [cur]
  | cur, b :: r => match b == 47 with
    | true => cur :: prt [] r
    | false => prt (cur ++ [b]) r
def partsL (s : ByteArray) : List ByteArray := (prt [] s.data.toList).map ba
theorem prt_len : ∀ (l cur : List UInt8), (prt cur l).length = l.count 47 + 1
  | [], _ => rfl
  | b :: r, cur => by
    simp only [prt]
    cases hb : (b == 47) with
    | true => simp only [List.length_cons, prt_len r]; rw [List.count_cons, hb]; simp
    | false => simp only [prt_len r]; rw [List.count_cons, hb]; simp
theorem partsL_len (s : ByteArray) : (partsL s).length ≤ s.size + 1 := by
  unfold partsL
  rw [List.length_map, prt_len, Go.Lib.size_eq s]
  have := List.count_le_length (a := (47 : UInt8)) (l := s.data.toList)
  omega
theorem idx47 : ∀ (l : List UInt8), (Go.Lib.indexByte l 47 = -1 ∧ l.count 47 = 0 ∧ ∀ cur, prt cur l = [cur ++ l]) ∨
    ∃ k : Nat, Go.Lib.indexByte l 47 = (k : Int) ∧ k < l.length ∧ (∀ cur, prt cur l = (cur ++ l.take k) :: prt [] (l.drop (k + 1))) ∧ l.count 47 = (l.drop (k + 1)).count 47 + 1
  | [] => .inl ⟨rfl, rfl, fun cur => by simp [prt]⟩
  | b :: r => by
    cases hb : (b == 47) with
    | true =>
      refine .inr ⟨0, by simp [Go.Lib.indexByte, hb], by simp, fun cur => by simp [prt, hb], ?_⟩
      rw [List.count_cons, hb]; simp
    | false =>
      rcases idx47 r with ⟨h1, h2, h3⟩ | ⟨k, h1, h2, h3, h4⟩
      · refine .inl ⟨by simp [Go.Lib.indexByte, hb, h1], by rw [List.count_cons, hb, h2]; rfl, fun cur => by simp [prt, hb, h3]⟩
      · refine .inr ⟨k + 1, ?_, by simpa using h2, fun cur => by simp [prt, hb, h3], ?_⟩
        · have hne : ((k : Int) == -1) = false := by rw [beq_eq_false_iff_ne]; omega
          simp only [Go.Lib.indexByte, hb, h1, hne, Bool.false_eq_true, if_false]; omega
        · rw [List.count_cons, hb, h4]; simp
theorem byte_eq47 (c : UInt8) : ((c.toNat : Int) = 47) ↔ (c == 47) = true := by
  rw [beq_iff_eq]
  constructor
  · intro h; exact UInt8.toNat_inj.1 (by show c.toNat = 47; omega)
  · rintro rfl; rfl
theorem parts_L4 (D : List UInt8) (hD : D.length ≤ 1048576) : ∀ (k from_ i : Nat) (m : List ByteArray), i + k = D.length → from_ ≤ i → m.length ≤ i →
    spec_l7Parts_L4.s (ba D) m.length (from_ : Int) (i : Int) m = some (m ++ (prt ((D.drop from_).take (i - from_)) (D.drop i)).map ba)
  | 0, from_, i, m, hk, hf, hm => by
    have hi : i = D.length := by omega
    rw [spec_l7Parts_L4.e]
    simp (disch := omega) only [if_pos, ba_size, fill1, List.length_cons, List.length_nil, wrap_succ, Int.toNat_natCast, ba_extract]
    rw [spec_l7Parts_L4.e, if_neg (by rw [ba_size]; omega), List.drop_eq_nil_of_le (by omega : D.length ≤ i)]
    rfl
  | k + 1, from_, i, m, hk, hf, hm => by
    have hi : i < D.length := by omega
    have hcur : (D.drop from_).take (i + 1 - from_) = (D.drop from_).take (i - from_) ++ [D[i]] := by
      rw [show i + 1 - from_ = (i - from_) + 1 by omega, List.take_succ_eq_append_getElem (by simp; omega)]
      simp only [List.getElem_drop]
      congr 3
      omega
    rw [List.drop_eq_getElem_cons hi]
    simp only [prt]
    rw [spec_l7Parts_L4.e]
    simp (disch := omega) only [if_pos, if_neg, ba_size, fill1, List.length_cons, List.length_nil, wrap_succ, Int.toNat_natCast, ba_extract, ba_byte hi]
    cases hc : (D[i] == 47) with
    | true =>
      rw [if_pos ((byte_eq47 _).2 hc)]
      have := parts_L4 D hD k (i + 1) (i + 1) (m ++ [ba ((D.drop from_).take (i - from_))]) (by omega) (by omega) (by simp; omega)
      rw [this]
      simp
    | false =>
      rw [if_neg (fun h => by have := (byte_eq47 _).1 h; rw [hc] at this; cases this)]
      rw [parts_L4 D hD k from_ (i + 1) m (by omega) (by omega) (by omega), hcur]
theorem spec_parts (s : ByteArray) (h : s.size ≤ 1048576) : spec_l7Parts.s s = some (partsL s) := by
  rw [spec_l7Parts.e]
  have := parts_L4 s.data.toList (by rw [← Go.Lib.size_eq]; exact h) s.data.toList.length 0 0 [] (by omega) (by omega) (by simp)
  rw [ba_self] at this
  simpa [partsL] using this
def sl : ByteArray := ByteArray.mk #[(47 : UInt8)]
theorem sl_ne : sl ≠ noS := fun h => by
  have := congrArg ByteArray.size h
  cases this
theorem sl_size : (sl.size : Int) = 1 := rfl
theorem count_sl (l : List UInt8) : strings_Count.s (ba l) sl = some ((l.count 47 : Nat) : Int) := by
  rw [strings_Count.e, if_neg (by decide), if_pos (by decide), if_pos (by decide)]; rfl
theorem index_sl (l : List UInt8) : strings_Index.s (ba l) sl = some (Go.Lib.indexByte l 47) := by
  rw [strings_Index.e, stringslite_Index.e, if_neg (by decide)]
  by_cases h : sl = ba l
  · have hl : l = [47] := by
      have := congrArg (fun x : ByteArray => x.data.toList) h
      exact this.symm
    subst hl
    rw [if_pos h]; rfl
  · rw [if_neg h, if_pos (by decide), if_pos (by decide), stringslite_IndexByte.e]; rfl
theorem split47 : ∀ (c i : Nat) (r : List UInt8) (a : List ByteArray), i + r.length ≤ 1048577 → r.count 47 = c → a.length = i + c + 1 →
    strings_genSplit_L11.s (ba r) sl 0 ((i + c : Nat) : Int) (i + c + 1) (i : Int) a = some (a.take i ++ (prt [] r).map ba)
  | 0, i, r, a, hr, hc, ha => by
    rcases idx47 r with ⟨_, _, h3⟩ | ⟨k, _, _, _, h4⟩
    · rw [strings_genSplit_L11.e]
      simp (disch := omega) only [if_pos, if_neg, wrap_succ, Int.toNat_natCast]
      rw [List.drop_zero, Nat.sub_zero, take_set (by omega), h3]
      rfl
    · omega
  | c + 1, i, r, a, hr, hc, ha => by
    rcases idx47 r with ⟨_, h2, _⟩ | ⟨k, h1, h2, h3, h4⟩
    · omega
    · have hd : (r.drop (k + 1)).take (r.length - (k + 1)) = r.drop (k + 1) := List.take_of_length_le (by simp)
      rw [strings_genSplit_L11.e]
      simp (disch := omega) only [if_pos, if_neg, wrap_succ, Int.toNat_natCast, index_sl, Option.bind_some, h1, sl_size, ba_size, Int.add_zero, wrap_nat, ba_extract, List.drop_zero, Nat.sub_zero, hd]
      have := split47 c (i + 1) (r.drop (k + 1)) (a.set i (ba (r.take k))) (by simp; omega) (by omega) (by simp; omega)
      rw [take_set (by omega)] at this
      rw [show i + 1 + c = i + (c + 1) by omega] at this
      rw [this, h3, List.nil_append, List.map_cons]
      simp
theorem impl_split (s : ByteArray) (h : s.size ≤ 1048576) : strings_Split.s s (ByteArray.mk #[(47 : UInt8)]) = some (partsL s) := by
  show strings_Split.s s sl = _
  have hcl : s.data.toList.count 47 ≤ s.data.toList.length := List.count_le_length
  have hsz : s.size = s.data.toList.length := Go.Lib.size_eq s
  unfold partsL
  generalize hD : s.data.toList = D at hcl hsz
  have hs : s = ba D := by rw [← hD, ba_self]
  subst hs
  have hw1 : IntKind.i64.wrap (((ba D).size : Int) + 1) = ((D.length + 1 : Nat) : Int) := by rw [ba_size]; exact wrap_succ (by omega)
  have hw2 : IntKind.i64.wrap (((D.count 47 : Nat) : Int) + 1) = ((D.count 47 + 1 : Nat) : Int) := wrap_succ (by omega)
  have hif : (if ((D.length + 1 : Nat) : Int) < ((D.count 47 + 1 : Nat) : Int) then ((D.length + 1 : Nat) : Int) else ((D.count 47 + 1 : Nat) : Int)) = ((D.count 47 + 1 : Nat) : Int) := if_neg (by omega)
  rw [strings_Split.e, strings_genSplit.e, if_neg (by omega), if_neg sl_ne, if_pos (by omega), count_sl, Option.bind_some]
  simp only [hw1, hw2, hif]
  rw [if_pos (by omega)]
  have hw3 : IntKind.i64.wrap (((D.count 47 + 1 : Nat) : Int) - 1) = ((0 + D.count 47 : Nat) : Int) := by rw [wrap_pred (by omega) (by omega)]; congr 1; omega
  rw [hw3, Int.toNat_natCast, List.length_replicate]
  have := split47 (D.count 47) 0 D (List.replicate (D.count 47 + 1) noS) (by omega) rfl (by simp)
  simp only [List.take_zero, List.nil_append] at this
  rw [show 0 + D.count 47 + 1 = D.count 47 + 1 by omega] at this
  have this : strings_genSplit_L11.s (ba D) sl 0 ((0 + D.count 47 : Nat) : Int) (D.count 47 + 1) (0 : Int) (List.replicate (D.count 47 + 1) noS) = _ := this
  rw [this]; rfl
/-! #### names -/
def nbP (c : Int) : Prop := 97 ≤ c ∧ c ≤ 122 ∨ 48 ≤ c ∧ c ≤ 57 ∨ c = 46 ∨ c = 95 ∨ c = 45
instance (c : Int) : Decidable (nbP c) := by unfold nbP; infer_instance
theorem spec_nb (c : Int) : spec_l6NameByte.s c = some (decide (nbP c)) := by
  rw [spec_l6NameByte.e]
  by_cases hn : nbP c
  · rw [decide_eq_true hn]
    unfold nbP at hn
    repeat' split
    all_goals first | rfl | (exfalso; omega) | (congr 1; rw [beq_iff_eq]; omega)
  · rw [decide_eq_false hn]
    unfold nbP at hn
    repeat' split
    all_goals first | rfl | (exfalso; omega) | (congr 1; rw [beq_eq_false_iff_ne]; omega)
theorem impl_nb (xs : ByteArray) (n i : Int) (h : i < n) (h0 : 0 ≤ i ∧ i < (xs.size : Int)) : impl_NameFault_L4.s xs n i = if nbP (byteAt xs i.toNat) then impl_NameFault_L4.s xs n (IntKind.i64.wrap (i + 1)) else some 1 := by
  conv => lhs; rw [impl_NameFault_L4.e, if_pos h, if_pos h0]
  generalize byteAt xs i.toNat = c
  generalize impl_NameFault_L4.s xs n (IntKind.i64.wrap (i + 1)) = v
  by_cases hn : nbP c
  · rw [if_pos hn]
    unfold nbP at hn
    repeat' split
    all_goals first | rfl | (exfalso; omega)
  · rw [if_neg hn]
    unfold nbP at hn
    repeat' split
    all_goals first | rfl | (exfalso; omega)
theorem name_loop (s : ByteArray) (hs : s.size ≤ 1048576) : ∀ (k i : Nat), i + k = s.size → ∃ r, spec_NameFault_L4.s s i = some r ∧ impl_NameFault_L4.s s s.size i = some r
  | 0, i, h => ⟨0, by rw [spec_NameFault_L4.e, if_neg (by omega)], by rw [impl_NameFault_L4.e, if_neg (by omega)]⟩
  | k + 1, i, h => by
    rw [spec_NameFault_L4.e, if_pos (by omega), if_pos (by omega), spec_nb, Option.bind_some, impl_nb _ _ _ (by omega) (by omega), wrap_succ (by omega)]
    by_cases hn : nbP (byteAt s (i : Int).toNat)
    · rw [if_pos (decide_eq_true hn), if_pos hn]
      exact name_loop s hs k (i + 1) (by omega)
    · rw [if_neg (by simpa using hn), if_neg hn]
      exact ⟨_, rfl, rfl⟩
theorem name_ex (s : ByteArray) : ∃ r, spec_NameFault.s s = some r ∧ impl_NameFault.s s = some r := by
  rw [spec_NameFault.e, impl_NameFault.e]
  by_cases h1 : (s.size : Int) < 1
  · rw [if_pos h1, if_pos h1]; exact ⟨_, rfl, rfl⟩
  rw [if_neg h1, if_neg h1]
  by_cases h2 : (s.size : Int) > 12
  · rw [if_pos h2, if_pos h2]; exact ⟨_, rfl, rfl⟩
  rw [if_neg h2, if_neg h2]
  by_cases h3 : s = ByteArray.mk #[(46 : UInt8)]
  · rw [if_pos h3, if_pos h3]; exact ⟨_, rfl, rfl⟩
  rw [if_neg h3, if_neg h3]
  by_cases h4 : s = ByteArray.mk #[(46 : UInt8), (46 : UInt8)]
  · rw [if_pos h4, if_pos h4]; exact ⟨_, rfl, rfl⟩
  rw [if_neg h4, if_neg h4]
  exact name_loop s (by omega) s.size 0 (by omega)
noncomputable def nf (s : ByteArray) : Int := (spec_NameFault.s s).getD 0
theorem spec_nf (s : ByteArray) : spec_NameFault.s s = some (nf s) := by obtain ⟨r, h, _⟩ := name_ex s; unfold nf; rw [h]; rfl
theorem impl_nf (s : ByteArray) : impl_NameFault.s s = some (nf s) := by obtain ⟨r, h, h'⟩ := name_ex s; unfold nf; rw [h, h']; rfl
/-! #### paths -/
noncomputable def okN (l : List ByteArray) : Bool := l.all fun x => decide (nf x = 0)
theorem path_spec (l : List ByteArray) (hl : l.length ≤ 1048577) : ∀ (k i : Nat), i + k = l.length → spec_PathFault_L5.s l i = some (if okN (l.drop i) = true then 0 else 1)
  | 0, i, h => by rw [spec_PathFault_L5.e, if_neg (by omega), List.drop_eq_nil_of_le (by omega)]; rfl
  | k + 1, i, h => by
    have hi : i < l.length := by omega
    rw [spec_PathFault_L5.e]
    simp (disch := omega) only [if_pos, spec_nf, Option.bind_some, Int.toNat_natCast, nth_at (t := .str) hi, wrap_succ, path_spec l hl k (i + 1)]
    rw [List.drop_eq_getElem_cons hi]
    unfold okN
    rw [List.all_cons]
    by_cases hn : nf l[i] = 0
    · rw [if_pos hn, decide_eq_true hn, Bool.true_and]
    · rw [if_neg hn, decide_eq_false hn, Bool.false_and]; rfl
theorem path_impl (l : List ByteArray) (hl : l.length ≤ 1048577) : ∀ (k i : Nat), i + k = l.length → ∃ r, slices_IndexFunc___string_string__L2.s l l.length i = some r ∧ decide (r ≥ 0) = !okN (l.drop i)
  | 0, i, h => ⟨-1, by rw [slices_IndexFunc___string_string__L2.e, if_neg (by omega)], by rw [List.drop_eq_nil_of_le (by omega)]; rfl⟩
  | k + 1, i, h => by
    have hi : i < l.length := by omega
    obtain ⟨r, h1, h2⟩ := path_impl l hl k (i + 1) (by omega)
    rw [slices_IndexFunc___string_string__L2.e]
    simp (disch := omega) only [if_pos, impl_PathFault_1.e, impl_nf, Option.bind_some, Int.toNat_natCast, nth_at (t := .str) hi, wrap_succ]
    rw [List.drop_eq_getElem_cons hi]
    unfold okN
    rw [List.all_cons]
    by_cases hn : nf l[i] = 0
    · rw [if_neg (by simpa using hn), decide_eq_true hn, Bool.true_and]
      exact ⟨r, h1, h2⟩
    · rw [if_pos (by simpa using hn), decide_eq_false hn, Bool.false_and]
      exact ⟨_, rfl, by simp⟩
noncomputable def pf (s : ByteArray) : Int := if ((partsL s).length : Int) > 4 then 1 else if okN (partsL s) = true then 0 else 1
theorem spec_pf (s : ByteArray) (h : s.size ≤ 1048576) : spec_PathFault.s s = some (pf s) := by
  rw [spec_PathFault.e, spec_parts s h, Option.bind_some]
  have hl := partsL_len s
  unfold pf
  have := path_spec (partsL s) (by omega) (partsL s).length 0 (by omega)
  rw [show (0 : Int) = ((0 : Nat) : Int) from rfl, this, List.drop_zero]
  split <;> rfl
theorem impl_pf (s : ByteArray) (h : s.size ≤ 1048576) : impl_PathFault.s s = some (pf s) := by
  rw [impl_PathFault.e, impl_split s h, Option.bind_some]
  have hl := partsL_len s
  obtain ⟨r, h1, h2⟩ := path_impl (partsL s) (by omega) (partsL s).length 0 (by omega)
  have h1 : slices_IndexFunc___string_string__L2.s (partsL s) (partsL s).length (0 : Int) = some r := h1
  rw [slices_ContainsFunc___string_string_.e, slices_IndexFunc___string_string_.e, h1, Option.bind_some, Option.bind_some, h2, List.drop_zero]
  unfold pf
  cases okN (partsL s) <;> (simp only [Bool.not_true, Bool.not_false, if_true, Bool.false_eq_true, if_false]; split <;> rfl)
theorem pf_cases (s : ByteArray) : pf s = 0 ∨ pf s = 1 := by
  unfold pf
  split
  · exact .inr rfl
  · split
    · exact .inl rfl
    · exact .inr rfl
/-! #### names of objects -/
def hxP (c : Int) : Prop := 48 ≤ c ∧ c ≤ 57 ∨ 97 ≤ c ∧ c ≤ 102
instance (c : Int) : Decidable (hxP c) := by unfold hxP; infer_instance
def hx (b : UInt8) : Bool := decide (hxP (b.toNat : Int))
theorem id_step (s : ByteArray) (i : Int) (h : i < 5) (h0 : 0 ≤ i ∧ i < (s.size : Int)) : spec_IsId_L4.s s i = if hxP (byteAt s i.toNat) then spec_IsId_L4.s s (IntKind.i64.wrap (i + 1)) else some false := by
  conv => lhs; rw [spec_IsId_L4.e, if_pos h, if_pos h0]
  generalize byteAt s i.toNat = c
  generalize spec_IsId_L4.s s (IntKind.i64.wrap (i + 1)) = v
  by_cases hn : hxP c
  · rw [if_pos hn]
    unfold hxP at hn
    repeat' split
    all_goals first | rfl | (exfalso; omega)
  · rw [if_neg hn]
    unfold hxP at hn
    repeat' split
    all_goals first | rfl | (exfalso; omega)
theorem id_loop (D : List UInt8) (hD : D.length = 5) : ∀ (k i : Nat), i + k = 5 → spec_IsId_L4.s (ba D) i = some ((D.drop i).all hx)
  | 0, i, h => by rw [spec_IsId_L4.e, if_neg (by omega), List.drop_eq_nil_of_le (by omega)]; rfl
  | k + 1, i, h => by
    have hi : i < D.length := by omega
    rw [id_step _ _ (by omega) (by rw [ba_size]; omega), wrap_succ (by omega), id_loop D hD k (i + 1) (by omega), Int.toNat_natCast, ba_byte hi, List.drop_eq_getElem_cons hi, List.all_cons]
    by_cases hn : hxP ((D[i].toNat : Nat) : Int)
    · rw [if_pos hn]; unfold hx; rw [decide_eq_true hn, Bool.true_and]
    · rw [if_neg hn]; unfold hx; rw [decide_eq_false hn, Bool.false_and]
def hexL : List UInt8 := [48, 49, 50, 51, 52, 53, 54, 55, 56, 57, 97, 98, 99, 100, 101, 102]
theorem hx_fin : ∀ n : _root_.Fin 256, hexL.contains (UInt8.ofNat n.val) = hx (UInt8.ofNat n.val) := by decide +kernel
theorem hx_cut (b : UInt8) : hexL.contains b = hx b := by
  have := hx_fin ⟨b.toNat, b.toNat_lt⟩
  simpa using this
theorem trim_nil (l cs : List UInt8) : Go.Lib.trimS l cs = [] ↔ (l.all fun b => cs.contains b) = true := by
  unfold Go.Lib.trimS Go.Lib.trimLeftS Go.Lib.trimRightS
  constructor
  · intro h
    have h1 : ∀ x ∈ (l.reverse.dropWhile (cs.contains ·)).reverse, cs.contains x = true := by
      intro x hx
      generalize (l.reverse.dropWhile (cs.contains ·)).reverse = m at h hx
      induction m with
      | nil => cases hx
      | cons a t ih =>
        rw [List.dropWhile_cons] at h
        split at h
        · rename_i ha
          rcases List.mem_cons.1 hx with rfl | hx
          · exact ha
          · exact ih h hx
        · cases h
    have h2 : l.reverse.dropWhile (cs.contains ·) = [] := by
      cases hd : l.reverse.dropWhile (cs.contains ·) with
      | nil => rfl
      | cons a t =>
        exfalso
        have ha := h1 a (by rw [hd]; simp)
        have hh := List.head?_dropWhile_not (cs.contains ·) l.reverse
        rw [hd] at hh
        simp only [List.head?_cons] at hh
        rw [ha] at hh
        cases hh
    have h3 : ∀ (m : List UInt8), m.dropWhile (cs.contains ·) = [] → ∀ x ∈ m, cs.contains x = true := by
      intro m
      induction m with
      | nil => intro _ x hx; cases hx
      | cons a t ih =>
        intro h x hx
        rw [List.dropWhile_cons] at h
        split at h
        · rename_i ha
          rcases List.mem_cons.1 hx with rfl | hx
          · exact ha
          · exact ih h x hx
        · cases h
    rw [List.all_eq_true]
    exact fun x hx => h3 _ h2 x (by simpa using hx)
  · intro h
    have h2 : l.reverse.dropWhile (cs.contains ·) = [] := by
      rw [List.all_eq_true] at h
      have : ∀ m : List UInt8, (∀ x ∈ m, cs.contains x = true) → m.dropWhile (cs.contains ·) = [] := by
        intro m
        induction m with
        | nil => intro _; rfl
        | cons a t ih =>
          intro h
          rw [List.dropWhile_cons, if_pos (h a (by simp))]
          exact ih fun x hx => h x (by simp [hx])
      exact this _ fun x hx => h x (by simpa using hx)
    rw [h2]; rfl
def hexC : ByteArray := ByteArray.mk #[(48 : UInt8), (49 : UInt8), (50 : UInt8), (51 : UInt8), (52 : UInt8), (53 : UInt8), (54 : UInt8), (55 : UInt8), (56 : UInt8), (57 : UInt8), (97 : UInt8), (98 : UInt8), (99 : UInt8), (100 : UInt8), (101 : UInt8), (102 : UInt8)]
theorem trim_hex (l : List UInt8) : ((trimB (ba l) hexC).toList == noS.toList) = l.all hx := by
  rw [Bool.eq_iff_iff, beq_iff_eq, noS_toList]
  have e : (trimB (ba l) hexC).toList = Go.Lib.trimS l hexL := ba_toList _
  rw [e, trim_nil]
  simp only [hx_cut]
def btc : ByteArray := ByteArray.mk #[(98 : UInt8), (116 : UInt8), (99 : UInt8)]
def isL (a : UInt8) : Bool := a == 98 || a == 116 || a == 99
theorem isL_fin : ∀ n : _root_.Fin 256, decide (Go.Lib.indexByte [98, 116, 99] (UInt8.ofNat n.val) < 0) = !isL (UInt8.ofNat n.val) := by decide +kernel
theorem isL_ix (a : UInt8) : decide (Go.Lib.indexByte [98, 116, 99] a < 0) = !isL a := by
  have := isL_fin ⟨a.toNat, a.toNat_lt⟩
  simpa using this
def isId (s : ByteArray) : Bool := s.data.toList.length == 5 && isL (s.data.toList.headD 0) && (s.data.toList.drop 1).all hx
theorem byte_eqc (b c : UInt8) : ((b.toNat : Int) = (c.toNat : Int)) ↔ b = c := by
  constructor
  · intro h; exact UInt8.toNat_inj.1 (by omega)
  · rintro rfl; rfl
theorem spec_isId (s : ByteArray) : spec_IsId.s s = some (isId s) := by
  have hsz : s.size = s.data.toList.length := Go.Lib.size_eq s
  rw [spec_IsId.e]
  unfold isId
  by_cases h5 : s.data.toList.length = 5
  · rw [if_pos (by omega)]
    generalize hD : s.data.toList = D at h5
    have hs : s = ba D := by rw [← hD, ba_self]
    subst hs
    have hlp := id_loop D h5 4 1 rfl
    have hlp : spec_IsId_L4.s (ba D) (1 : Int) = some ((D.drop 1).all hx) := hlp
    have hb : byteAt (ba D) (Int.toNat (0 : Int)) = ((D.headD 0).toNat : Int) := by
      rw [show Int.toNat (0 : Int) = 0 from rfl, ba_byte (by omega)]
      cases D with
      | nil => cases h5
      | cons a t => rfl
    have e5 : (D.length == 5) = true := by rw [h5]; rfl
    have hp : (0 : Int) ≤ 0 ∧ (0 : Int) < ((ba D).size : Int) := by rw [ba_size]; omega
    simp only [if_pos hp]
    rw [hlp, hb, e5, Bool.true_and]
    unfold isL
    generalize D.headD 0 = a
    have c1 : ((a.toNat : Int) = 98) ↔ a = 98 := byte_eqc a 98
    have c2 : ((a.toNat : Int) = 116) ↔ a = 116 := byte_eqc a 116
    have c3 : ((a.toNat : Int) = 99) ↔ a = 99 := byte_eqc a 99
    simp only [c1, c2, c3]
    by_cases a1 : a = 98
    · rw [if_pos a1, a1]; rfl
    rw [if_neg a1]
    by_cases a2 : a = 116
    · rw [if_pos a2, a2]; rfl
    rw [if_neg a2]
    by_cases a3 : a = 99
    · rw [if_pos a3, a3]; rfl
    · rw [if_neg a3, beq_eq_false_iff_ne.2 a1, beq_eq_false_iff_ne.2 a2, beq_eq_false_iff_ne.2 a3]; rfl
  · rw [if_neg (by omega), beq_eq_false_iff_ne.2 h5]; rfl
theorem impl_isId (s : ByteArray) : impl_IsId.s s = some (isId s) := by
  have hsz : s.size = s.data.toList.length := Go.Lib.size_eq s
  rw [impl_IsId.e]
  unfold isId
  by_cases h5 : s.data.toList.length = 5
  · rw [if_pos (by omega)]
    generalize hD : s.data.toList = D at h5
    have hs : s = ba D := by rw [← hD, ba_self]
    subst hs
    have hb : byteAt (ba D) (Int.toNat (0 : Int)) = ((D.headD 0).toNat : Int) := by
      rw [show Int.toNat (0 : Int) = 0 from rfl, ba_byte (by omega)]
      cases D with
      | nil => cases h5
      | cons a t => rfl
    have e5 : (D.length == 5) = true := by rw [h5]; rfl
    have ex : (ba D).extract (Int.toNat (1 : Int)) (ba D).size = ba (D.drop 1) := by
      rw [ba_size, show Int.toNat (1 : Int) = 1 from rfl, ba_extract]
      rw [List.take_of_length_le (by simp)]
    have hi : strings_IndexByte.s (ByteArray.mk #[(98 : UInt8), (116 : UInt8), (99 : UInt8)]) ((D.headD 0).toNat : Int) = some (Go.Lib.indexByte [98, 116, 99] (D.headD 0)) := by
      rw [strings_IndexByte.e, stringslite_IndexByte.e, Option.bind_some]
      congr 2
      simp
    rw [if_pos (by rw [ba_size]; omega), hb, hi, ex, e5, Bool.true_and, Option.bind_some]
    have := isL_ix (D.headD 0)
    cases hl : isL (D.headD 0) with
    | true =>
      rw [hl] at this
      rw [if_neg (by simpa using this), if_pos (by rw [ba_size]; omega), if_pos (by rw [ba_size]; simp; omega)]
      have := trim_hex (D.drop 1)
      unfold hexC at this
      rw [this, Bool.true_and]
    | false =>
      rw [hl] at this
      rw [if_pos (by simpa using this)]; rfl
  · rw [if_neg (by omega), beq_eq_false_iff_ne.2 h5]; rfl
theorem letter1 : spec_l5Letter.s 1 = some (ba [98]) := by rw [spec_l5Letter.e, if_pos (by decide), if_pos (by decide)]; rfl
theorem isOf_gen (s : ByteArray) (k : Int) (c : UInt8) (h1 : spec_l5Letter.s k = some (ba [c])) (h2 : 1 ≤ k ∧ k ≤ 3) (h3 : byteAt btc (IntKind.i64.wrap (k - 1)).toNat = (c.toNat : Int)) :
    spec_l6Is.s s k = some (isId s && s.data.toList.headD 0 == c) ∧ impl_isIdOf.s k s = some (isId s && s.data.toList.headD 0 == c) := by
  rw [spec_l6Is.e, impl_isIdOf.e, spec_isId, impl_isId, Option.bind_some, Option.bind_some]
  cases hi : isId s with
  | false => exact ⟨rfl, rfl⟩
  | true =>
    have hsz : s.size = s.data.toList.length := Go.Lib.size_eq s
    have h5 : s.data.toList.length = 5 := by
      unfold isId at hi
      simp only [Bool.and_eq_true, beq_iff_eq] at hi
      exact hi.1.1
    generalize hD : s.data.toList = D at h5
    have hs : s = ba D := by rw [← hD, ba_self]
    subst hs
    cases D with
    | nil => cases h5
    | cons a t =>
      have ht : t.length = 4 := by simpa using h5
      have hw : IntKind.i64.wrap (k - 1) = k - 1 := wrap_id (by omega) (by omega)
      have hb : byteAt (ba (a :: t)) (Int.toNat (0 : Int)) = (a.toNat : Int) := rfl
      have hx : (ba (a :: t)).extract 0 (Int.toNat (1 : Int)) = ba [a] := by
        rw [show Int.toNat (1 : Int) = 1 from rfl, ba_extract]; rfl
      have hbs : ((btc.size : Nat) : Int) = 3 := rfl
      constructor
      · rw [if_pos rfl, if_pos (by rw [ba_size, List.length_cons]; omega), h1, Option.bind_some, hx, ba_toList, ba_toList]
        simp
      · rw [if_pos rfl, if_pos (by rw [ba_size, List.length_cons]; omega), if_pos (by show _ ∧ _ < ((btc.size : Nat) : Int); rw [hbs, hw]; omega)]
        show some (_ == byteAt btc _) = _
        rw [h3, hb, byte_eq]
        simp
def isB (s : ByteArray) : Bool := isId s && s.data.toList.headD 0 == 98
theorem spec_isB (s : ByteArray) : spec_l6Is.s s 1 = some (isB s) := (isOf_gen s 1 98 letter1 (by omega) rfl).1
theorem impl_isB (s : ByteArray) : impl_isIdOf.s 1 s = some (isB s) := (isOf_gen s 1 98 letter1 (by omega) rfl).2
def isM (k : Int) : Bool := decide (k = 1 ∨ k = 2)
theorem impl_m (k : Int) : impl_isFileMode.s k = some (isM k) := by
  rw [impl_isFileMode.e]; unfold isM
  by_cases h : k = 1
  · rw [if_pos h]; congr 1; symm; exact decide_eq_true (.inl h)
  · rw [if_neg h]; congr 1; rw [Bool.eq_iff_iff, beq_iff_eq, decide_eq_true_iff]; omega
/-! #### the order of entries -/
@[reducible] def stg (x : T_Entry.den) : Int := x.2.1
def ltE (x y : T_Entry.den) : Prop := cmp x.1 y.1 < 0 ∨ (x.1 = y.1 ∧ stg x < stg y)
theorem ltE_asymm {x y : T_Entry.den} (h : ltE x y) : ¬ ltE y x := by
  rintro k
  rcases h with h | ⟨e, h⟩ <;> rcases k with k | ⟨e', k⟩
  · have := cmp_trans h k; rw [cmp_self] at this; omega
  · rw [e', cmp_self] at h; omega
  · rw [e, cmp_self] at k; omega
  · omega
theorem ltE_cot {z x : T_Entry.den} (y : T_Entry.den) (h : ltE z x) : ltE z y ∨ ltE y x := by
  by_cases hzy : z.1 = y.1
  · rcases h with h | ⟨e, h⟩
    · exact .inr (.inl (hzy ▸ h))
    · by_cases hs : stg z < stg y
      · exact .inl (.inr ⟨hzy, hs⟩)
      · exact .inr (.inr ⟨hzy ▸ e, by omega⟩)
  · by_cases hc : cmp z.1 y.1 < 0
    · exact .inl (.inl hc)
    · have hyz := cmp_flip hc hzy
      rcases h with h | ⟨e, h⟩
      · exact .inr (.inl (cmp_trans hyz h))
      · exact .inr (.inl (e ▸ hyz))
theorem ltE_tri {x y : T_Entry.den} (h : ¬ ltE x y) (k : ¬ ltE y x) : x.1 = y.1 ∧ stg x = stg y := by
  have he : x.1 = y.1 := by
    apply Classical.byContradiction
    intro hne
    by_cases hc : cmp x.1 y.1 < 0
    · exact h (.inl hc)
    · exact k (.inl (cmp_flip hc hne))
  refine ⟨he, ?_⟩
  have h1 : ¬ stg x < stg y := fun hh => h (.inr ⟨he, hh⟩)
  have h2 : ¬ stg y < stg x := fun hh => k (.inr ⟨he.symm, hh⟩)
  omega
def ceI (x y : T_Entry.den) : Int := if cmp x.1 y.1 = 0 then (if stg x < stg y then -1 else if stg x > stg y then 1 else 0) else cmp x.1 y.1
theorem or2 (a b : Int) : cmp_Or_int_.s (fillElems [((0 : Nat), a), ((1 : Nat), b)] (List.replicate (2 : Nat) (0 : Int))) = some (if a = 0 then b else a) := by
  rw [show fillElems [((0 : Nat), a), ((1 : Nat), b)] (List.replicate (2 : Nat) (0 : Int)) = [a, b] from rfl, cmp_Or_int_.e, cmp_Or_int__L3.e, if_pos (by simp), if_pos (by simp)]
  have n0 : nth (Ty.int IntKind.i64) [a, b] (Int.toNat (0 : Int)) = a := rfl
  have n1 : nth (Ty.int IntKind.i64) [a, b] (Int.toNat (1 : Int)) = b := rfl
  have w1 : IntKind.i64.wrap ((0 : Int) + 1) = 1 := by decide
  have w2 : IntKind.i64.wrap ((1 : Int) + 1) = 2 := by decide
  rw [n0]
  by_cases ha : a = 0
  · rw [if_pos ha, if_pos ha, w1, cmp_Or_int__L3.e, if_pos (by simp), if_pos (by simp), n1, w2]
    by_cases hb : b = 0
    · rw [if_pos hb, cmp_Or_int__L3.e, if_neg (by simp), hb]
    · rw [if_neg hb]
  · rw [if_neg ha, if_neg ha]
theorem ce_s (x y : T_Entry.den) : impl_compareEntries.s x y = some (ceI x y) := by
  rw [impl_compareEntries.e, strings_Compare.e, bytealg_CompareString.e, cmp_Compare_int64_.e, cmp_isNaN_int64_.e, cmp_isNaN_int64_.e]
  simp only [Option.bind_some, bne_self_eq_false, Bool.false_eq_true, if_false]
  have hc : Go.Lib.compareBytes x.1.data.toList y.1.data.toList = cmp x.1 y.1 := rfl
  rw [hc]
  unfold ceI
  by_cases h1 : stg x < stg y
  · rw [if_pos h1, if_pos h1, Option.bind_some, or2, Option.bind_some]
  · rw [if_neg h1, if_neg h1]
    by_cases h2 : stg x > stg y
    · rw [if_pos h2, if_pos h2, Option.bind_some, or2, Option.bind_some]
    · rw [if_neg h2, if_neg h2, Option.bind_some, or2, Option.bind_some]
theorem ceI_lt (x y : T_Entry.den) : ceI x y < 0 ↔ ltE x y := by
  unfold ceI ltE
  by_cases h0 : cmp x.1 y.1 = 0
  · have he := cmp_eq h0
    rw [if_pos h0]
    constructor
    · intro h
      split at h
      · rename_i hh; exact .inr ⟨he, hh⟩
      · split at h <;> omega
    · rintro (h | ⟨_, h⟩)
      · omega
      · rw [if_pos h]; omega
  · rw [if_neg h0]
    constructor
    · exact .inl
    · rintro (h | ⟨e, _⟩)
      · exact h
      · rw [e, cmp_self] at h0; exact absurd rfl h0
/-! #### the faults of an index -/
def inS (k : Int) : Bool := decide (0 ≤ k ∧ k ≤ 3)
theorem spec_in (k : Int) : spec_l1In.s k 0 3 = some (inS k) := by
  rw [spec_l1In.e]; unfold inS
  by_cases h : k ≥ 0
  · rw [if_pos h]; congr 1; rw [Bool.eq_iff_iff, decide_eq_true_iff, decide_eq_true_iff]; omega
  · rw [if_neg h]; congr 1; symm; rw [decide_eq_false_iff_not]; omega
theorem impl_in (k : Int) : impl_within.s k 0 3 = some (inS k) := by
  rw [impl_within.e]; unfold inS
  by_cases h : k ≥ 0
  · rw [if_pos h]; congr 1; rw [Bool.eq_iff_iff, decide_eq_true_iff, decide_eq_true_iff]; omega
  · rw [if_neg h]; congr 1; symm; rw [decide_eq_false_iff_not]; omega
theorem spec_m (k : Int) : spec_l10Mode.s k = some (isM k) := by
  rw [spec_l10Mode.e]; unfold isM
  by_cases h : k = 1
  · rw [if_pos h]; congr 1; symm; exact decide_eq_true (.inl h)
  · rw [if_neg h]; congr 1; rw [Bool.eq_iff_iff, beq_iff_eq, decide_eq_true_iff]; omega
def behP (x y : T_Entry.den) : Prop := ltE x y ∧ (x.1 = y.1 → stg x ≠ 0)
theorem beh_spec (x y : T_Entry.den) (hx : 0 ≤ stg x) : ∃ b, spec_l10Behind.s x y = some b ∧ (b = true ↔ behP x y) := by
  have heq : spec_l10Behind.s x y = if x.1 = y.1 then (if stg x < stg y then some (decide (stg x > 0)) else some false) else some (Op.bytesLess x.1.toList y.1.toList) := spec_l10Behind.e x y
  rw [heq]
  unfold behP ltE
  by_cases he : x.1 = y.1
  · rw [if_pos he]
    by_cases hl : stg x < stg y
    · rw [if_pos hl]
      refine ⟨_, rfl, ?_⟩
      rw [decide_eq_true_iff]
      constructor
      · intro h; exact ⟨.inr ⟨he, hl⟩, fun _ => by omega⟩
      · rintro ⟨_, h⟩
        have := h he
        omega
    · rw [if_neg hl]
      refine ⟨_, rfl, ?_⟩
      constructor
      · intro h; cases h
      · rintro ⟨h | ⟨_, h⟩, _⟩
        · rw [he, cmp_self] at h; omega
        · exact absurd h hl
  · rw [if_neg he]
    refine ⟨_, rfl, ?_⟩
    have hb : Op.bytesLess x.1.toList y.1.toList = true ↔ cmp x.1 y.1 < 0 := by
      have := blt_iff x.1 y.1
      unfold BLt at this
      rw [← this, Go.Lib.toList_data, Go.Lib.toList_data]
    rw [hb]
    constructor
    · intro h; exact ⟨.inl h, fun e => absurd e he⟩
    · rintro ⟨h | ⟨e, _⟩, _⟩
      · exact h
      · exact absurd e he
structure OkIx (l : List T_Entry.den) (i : Nat) : Prop where
  st : ∀ j, (h : j < i) → (h' : j < l.length) → 0 ≤ (stg l[j]) ∧ (stg l[j]) ≤ 3
  md : ∀ j, (h : j < i) → (h' : j < l.length) → pf (l[j] : T_Entry.den).1 = 0 ∧ isM (l[j] : T_Entry.den).2.2.1 = true ∧ isB (l[j] : T_Entry.den).2.2.2.1 = true
  beh : ∀ j, (h : j + 1 < i) → (h' : j + 1 < l.length) → behP l[j] l[j + 1]
theorem index_loop (l : List T_Entry.den) (hl : l.length ≤ 1048576) (hp : ∀ e ∈ l, (e.1 : ByteArray).size ≤ 1048576) : ∀ (k i : Nat), i + k = l.length → OkIx l i →
    ∃ r, spec_IndexFault_L4.s l i = some r ∧ impl_IndexFault_L4.s l l l.length i = some r ∧ (r = 0 → OkIx l l.length)
  | 0, i, h, ho => ⟨0, by rw [spec_IndexFault_L4.e, if_neg (by omega)], by rw [impl_IndexFault_L4.e, if_neg (by omega)], fun _ => by rw [show l.length = i by omega]; exact ho⟩
  | k + 1, i, h, ho => by
    have hi : i < l.length := by omega
    have hsz := hp _ (List.getElem_mem hi)
    have hib : i < 4611686018427387904 := by omega
    have c1 : ((i : Nat) : Int) < (l.length : Int) := by omega
    have c2 : 0 ≤ ((i : Nat) : Int) ∧ ((i : Nat) : Int) < (l.length : Int) := by omega
    rw [spec_IndexFault_L4.e, impl_IndexFault_L4.e, if_pos c1, if_pos c2, if_pos c1, if_pos c2]
    simp only [Int.toNat_natCast, nth_at (t := T_Entry) hi, wrap_succ hib, spec_pf _ hsz, impl_pf _ hsz, Option.bind_some, spec_in, impl_in, spec_m, impl_m, spec_isB, impl_isB]
    have hpc := pf_cases (l[i] : T_Entry.den).1
    by_cases h1 : pf (l[i] : T_Entry.den).1 = 0
    rotate_left
    · rw [if_neg h1, if_neg h1]
      exact ⟨_, rfl, by congr 1; omega, fun e => absurd e h1⟩
    rw [if_pos h1, if_pos h1]
    by_cases h2 : inS (stg l[i]) = true
    rotate_left
    · rw [if_neg h2, if_neg h2]
      exact ⟨_, rfl, rfl, fun e => by cases e⟩
    rw [if_pos h2, if_pos h2]
    by_cases h3 : isM (l[i] : T_Entry.den).2.2.1 = true
    rotate_left
    · rw [if_neg h3, if_neg h3]
      exact ⟨_, rfl, rfl, fun e => by cases e⟩
    rw [if_pos h3, if_pos h3]
    by_cases h4 : isB (l[i] : T_Entry.den).2.2.2.1 = true
    rotate_left
    · rw [if_neg h4, if_neg h4]
      exact ⟨_, rfl, rfl, fun e => by cases e⟩
    rw [if_pos h4, if_pos h4]
    have hst : 0 ≤ (stg l[i]) ∧ (stg l[i]) ≤ 3 := by unfold inS at h2; exact of_decide_eq_true h2
    have st' : ∀ j, (h : j < i + 1) → (h' : j < l.length) → 0 ≤ (stg l[j]) ∧ (stg l[j]) ≤ 3 := by
      intro j hj hj'
      by_cases hji : j = i
      · subst hji; exact hst
      · exact ho.st j (by omega) hj'
    have md' : ∀ j, (h : j < i + 1) → (h' : j < l.length) → pf (l[j] : T_Entry.den).1 = 0 ∧ isM (l[j] : T_Entry.den).2.2.1 = true ∧ isB (l[j] : T_Entry.den).2.2.2.1 = true := by
      intro j hj hj'
      by_cases hji : j = i
      · subst hji; exact ⟨h1, h3, h4⟩
      · exact ho.md j (by omega) hj'
    by_cases h0 : (i : Int) > 0
    rotate_left
    · rw [if_neg h0, if_neg h0]
      exact index_loop l hl hp k (i + 1) (by omega) ⟨st', md', fun j hj _ => by omega⟩
    have hi1 : i - 1 < l.length := by omega
    have hs0 := (ho.st (i - 1) (by omega) hi1).1
    rw [if_pos h0, if_pos h0]
    simp (disch := omega) only [if_pos, wrap_pred, Int.toNat_natCast, nth_at (t := T_Entry) hi1, ce_s, Option.bind_some]
    obtain ⟨b, hb1, hb2⟩ := beh_spec l[i - 1] l[i] hs0
    rw [hb1, Option.bind_some]
    by_cases hbe : behP l[i - 1] l[i]
    · have hlt := (ceI_lt l[i - 1] l[i]).2 hbe.1
      rw [if_pos (hb2.2 hbe), if_neg (by omega)]
      have rec_ := index_loop l hl hp k (i + 1) (by omega) ⟨st', md', fun j hj hj' => by
        by_cases hji : j + 1 = i
        · subst hji; exact hbe
        · exact ho.beh j (by omega) hj'⟩
      by_cases he : (l[i - 1] : T_Entry.den).1 = (l[i] : T_Entry.den).1
      · rw [if_pos he, if_neg (hbe.2 he)]; exact rec_
      · rw [if_neg he]; exact rec_
    · have hbf : ¬ b = true := fun e => hbe (hb2.1 e)
      rw [if_neg hbf]
      refine ⟨1, rfl, ?_, fun e => by cases e⟩
      by_cases hlt : ltE l[i - 1] l[i]
      · have hc := (ceI_lt l[i - 1] l[i]).2 hlt
        have he : (l[i - 1] : T_Entry.den).1 = (l[i] : T_Entry.den).1 := Classical.byContradiction fun hne => hbe ⟨hlt, fun e => absurd e hne⟩
        have hz : (stg l[i - 1]) = 0 := Classical.byContradiction fun hne => hbe ⟨hlt, fun _ => hne⟩
        rw [if_neg (by omega), if_pos he, if_pos hz]
      · have hc : ¬ ceI l[i - 1] l[i] < 0 := fun h => hlt ((ceI_lt _ _).1 h)
        rw [if_pos (by omega)]
theorem indexFault_all (l : List T_Entry.den) (hl : l.length ≤ 1048576) (hp : ∀ e ∈ l, (e.1 : ByteArray).size ≤ 1048576) :
    ∃ r, spec_IndexFault.s l = some r ∧ impl_IndexFault.s l = some r ∧ (r = 0 → OkIx l l.length ∧ l.length ≤ 200) := by
  rw [spec_IndexFault.e, impl_IndexFault.e]
  by_cases h : (l.length : Int) > 200
  · rw [if_pos h, if_pos h]; exact ⟨_, rfl, rfl, fun e => by cases e⟩
  · rw [if_neg h, if_neg h]
    obtain ⟨r, h1, h2, h3⟩ := index_loop l hl hp l.length 0 (by omega) ⟨fun j hj => by omega, fun j hj => by omega, fun j hj => by omega⟩
    exact ⟨r, h1, h2, fun e => ⟨h3 e, by omega⟩⟩
theorem row_flat {t : Ty} {β γ : Type} {L : Int → List β → Option γ} {l : List t.den} {g : t.den → List β} (hg : ∀ x, (g x).length ≤ 1)
    (hs : ∀ (i : Nat) (hi : i < l.length) (m : List β), m.length ≤ i → L i m = L ((i + 1 : Nat) : Int) (m ++ g l[i])) :
    ∀ (k i : Nat) (m : List β), i + k = l.length → m.length ≤ i → L i m = L (l.length : Int) (m ++ (l.drop i).flatMap g)
  | 0, i, m, h, hm => by
    have hi : i = l.length := by omega
    subst hi
    rw [List.drop_length]; simp
  | k + 1, i, m, h, hm => by
    have hi : i < l.length := by omega
    have h1 := hg l[i]
    rw [hs i hi m hm, row_flat hg hs k (i + 1) (m ++ g l[i]) (by omega) (by rw [List.length_append]; omega), List.drop_eq_getElem_cons hi, List.flatMap_cons, List.append_assoc]
theorem row_flat0 {t : Ty} {β γ : Type} {L : Int → List β → Option γ} {l : List t.den} {g : t.den → List β} (hg : ∀ x, (g x).length ≤ 1)
    (hs : ∀ (i : Nat) (hi : i < l.length) (m : List β), m.length ≤ i → L i m = L ((i + 1 : Nat) : Int) (m ++ g l[i])) : L 0 [] = L (l.length : Int) (l.flatMap g) := by
  have := row_flat hg hs l.length 0 [] (by omega) (by simp)
  simpa using this
theorem row_first {t : Ty} {β : Type} {L : Int → Option β} {q : t.den → Bool} {r : t.den → β} {d : β} {l : List t.den}
    (h0 : L (l.length : Int) = some d) (h1 : ∀ (i : Nat) (hi : i < l.length), q l[i] = true → L i = some (r l[i])) (h2 : ∀ (i : Nat) (hi : i < l.length), q l[i] = false → L i = L ((i + 1 : Nat) : Int)) :
    ∀ (k i : Nat), i + k = l.length → L i = some (((l.drop i).find? q).elim d r)
  | 0, i, h => by
    have hi : i = l.length := by omega
    subst hi
    rw [h0, List.drop_length]; rfl
  | k + 1, i, h => by
    have hi : i < l.length := by omega
    rw [List.drop_eq_getElem_cons hi, List.find?_cons]
    cases hq : q l[i] with
    | true => rw [h1 i hi hq]; rfl
    | false => rw [h2 i hi hq]; exact row_first h0 h1 h2 k (i + 1) (by omega)
theorem row_first0 {t : Ty} {β : Type} {L : Int → Option β} {q : t.den → Bool} {r : t.den → β} {d : β} {l : List t.den}
    (h0 : L (l.length : Int) = some d) (h1 : ∀ (i : Nat) (hi : i < l.length), q l[i] = true → L i = some (r l[i])) (h2 : ∀ (i : Nat) (hi : i < l.length), q l[i] = false → L i = L ((i + 1 : Nat) : Int)) :
    L 0 = some ((l.find? q).elim d r) := by
  have := row_first h0 h1 h2 l.length 0 (by omega)
  simpa using this
theorem one_len {β : Type} {c : Bool} {x : β} : (bif c then [x] else []).length ≤ 1 := by cases c <;> simp
theorem ltE_tr {x y z : T_Entry.den} (h : ltE x y) (k : ltE y z) : ltE x z := by
  rcases h with h | ⟨e, h⟩ <;> rcases k with k | ⟨e', k⟩
  · exact .inl (cmp_trans h k)
  · exact .inl (e' ▸ h)
  · exact .inl (e ▸ k)
  · exact .inr ⟨e.trans e', by omega⟩
theorem ix_lt {l : List T_Entry.den} (h : OkIx l l.length) : ∀ (k i : Nat) (hj : i + 1 + k < l.length), ltE (l[i]'(by omega)) l[i + 1 + k]
  | 0, i, hj => (h.beh i (by omega) (by omega)).1
  | k + 1, i, hj => ltE_tr (ix_lt h k i (by omega)) (h.beh (i + 1 + k) (by omega) (by omega)).1
theorem ltE_le {x y : T_Entry.den} (h : ltE x y) : cmp x.1 y.1 < 0 ∨ x.1 = y.1 := h.elim .inl fun k => .inr k.1
theorem ix_same {l : List T_Entry.den} (h : OkIx l l.length) (i k : Nat) (hj : i + 1 + k < l.length) (he : (l[i]'(by omega) : T_Entry.den).1 = (l[i + 1 + k] : T_Entry.den).1) :
    stg (l[i]'(by omega)) < stg l[i + 1 + k] ∧ stg (l[i]'(by omega)) ≠ 0 := by
  have h1 := ix_lt h k i hj
  have h2 : stg (l[i]'(by omega)) < stg l[i + 1 + k] := by
    rcases h1 with h1 | ⟨_, h1⟩
    · rw [he, cmp_self] at h1; omega
    · exact h1
  refine ⟨h2, ?_⟩
  have hb := h.beh i (by omega) (by omega)
  refine hb.2 ?_
  cases k with
  | zero => exact he
  | succ k =>
    have h3 : ltE (l[i + 1]'(by omega)) (l[i + 1 + (k + 1)]'(by omega)) := by
      have := ix_lt h k (i + 1) (by omega)
      simpa only [show i + 1 + 1 + k = i + 1 + (k + 1) by omega] using this
    rcases hb.1 with h4 | ⟨e, _⟩
    · exfalso
      rcases ltE_le h3 with h5 | h5
      · have := cmp_trans h4 h5; rw [he, cmp_self] at this; omega
      · rw [h5, ← he, cmp_self] at h4; omega
    · exact e
def Rel (x y : T_Entry.den) : Prop := x.1 = y.1 → stg x < stg y ∧ stg x ≠ 0
theorem ix_pair {l : List T_Entry.den} (h : OkIx l l.length) : l.Pairwise Rel := by
  rw [List.pairwise_iff_getElem]
  intro i j hi hj hij he
  obtain ⟨k, rfl⟩ : ∃ k, j = i + 1 + k := ⟨j - (i + 1), by omega⟩
  exact ix_same h i k hj he
def ofP (l : List T_Entry.den) (p : ByteArray) : List T_Entry.den := l.filter fun e => decide (e.1 = p)
inductive Few : List T_Entry.den → Prop where
  | nil : Few []
  | one (a : T_Entry.den) (h : 0 ≤ stg a ∧ stg a ≤ 3) : Few [a]
  | two (a b : T_Entry.den) (h : 1 ≤ stg a ∧ stg a < stg b ∧ stg b ≤ 3) : Few [a, b]
  | three (a b c : T_Entry.den) (h : stg a = 1 ∧ stg b = 2 ∧ stg c = 3) : Few [a, b, c]
theorem few_of {l : List T_Entry.den} (h : OkIx l l.length) (p : ByteArray) : Few (ofP l p) := by
  have h1 : (ofP l p).Pairwise Rel := (ix_pair h).filter _
  have h2 : ∀ e ∈ ofP l p, e.1 = p ∧ 0 ≤ stg e ∧ stg e ≤ 3 := by
    intro e he
    obtain ⟨m, hp⟩ := List.mem_filter.1 he
    obtain ⟨i, hi, rfl⟩ := List.getElem_of_mem m
    exact ⟨of_decide_eq_true hp, h.st i hi hi⟩
  generalize ofP l p = M at h1 h2
  match M, h1, h2 with
  | [], _, _ => exact .nil
  | [a], _, h2 => exact .one a (h2 a (by simp)).2
  | [a, b], h1, h2 =>
    have ra := (List.pairwise_cons.1 h1).1 b (by simp)
    obtain ⟨a1, a2, a3⟩ := h2 a (by simp)
    obtain ⟨b1, b2, b3⟩ := h2 b (by simp)
    obtain ⟨r1, r2⟩ := ra (a1.trans b1.symm)
    exact .two a b ⟨by omega, r1, b3⟩
  | [a, b, c], h1, h2 =>
    have ra := (List.pairwise_cons.1 h1).1 b (by simp)
    have rb := (List.pairwise_cons.1 (List.pairwise_cons.1 h1).2).1 c (by simp)
    obtain ⟨a1, a2, a3⟩ := h2 a (by simp)
    obtain ⟨b1, b2, b3⟩ := h2 b (by simp)
    obtain ⟨c1, c2, c3⟩ := h2 c (by simp)
    obtain ⟨r1, r2⟩ := ra (a1.trans b1.symm)
    obtain ⟨q1, q2⟩ := rb (b1.trans c1.symm)
    exact .three a b c ⟨by omega, by omega, by omega⟩
  | a :: b :: c :: d :: r, h1, h2 =>
    exfalso
    have ra := (List.pairwise_cons.1 h1).1 b (by simp)
    have rb := (List.pairwise_cons.1 (List.pairwise_cons.1 h1).2).1 c (by simp)
    have rc := (List.pairwise_cons.1 (List.pairwise_cons.1 (List.pairwise_cons.1 h1).2).2).1 d (by simp)
    obtain ⟨a1, a2, a3⟩ := h2 a (by simp)
    obtain ⟨b1, b2, b3⟩ := h2 b (by simp)
    obtain ⟨c1, c2, c3⟩ := h2 c (by simp)
    obtain ⟨d1, d2, d3⟩ := h2 d (by simp)
    obtain ⟨r1, r2⟩ := ra (a1.trans b1.symm)
    obtain ⟨q1, q2⟩ := rb (b1.trans c1.symm)
    obtain ⟨s1, s2⟩ := rc (c1.trans d1.symm)
    omega
def toF (e : T_Entry.den) : T_File.den := (e.1, e.2.2.1, e.2.2.2.1, ())
def stageL (l : List T_Entry.den) (k : Int) : List T_File.den := l.flatMap fun e => bif decide (stg e = k) then [toF e] else []
theorem spec_stage (l : List T_Entry.den) (hl : l.length ≤ 1048576) (k : Int) : spec_l10Stage.s l k = some (stageL l k) := by
  rw [spec_l10Stage.e]
  have := row_flat0 (t := T_Entry) (L := fun i m => spec_l10Stage_L3.s l k m.length i m) (l := l) (g := fun e => bif decide (stg e = k) then [toF e] else []) (fun x => one_len) (fun i hi m hm => by
    show spec_l10Stage_L3.s l k _ _ _ = spec_l10Stage_L3.s l k _ _ _
    conv => lhs; rw [spec_l10Stage_L3.e]
    simp (disch := omega) only [if_pos, Int.toNat_natCast, nth_at hi, wrap_succ, fill1, List.length_append, List.length_cons, List.length_nil]
    by_cases h : stg l[i] = k
    · rw [if_pos h, decide_eq_true h]; rfl
    · rw [if_neg h, decide_eq_false h]
      simp)
  have h0 : spec_l10Stage_L3.s l k 0 0 [] = _ := this
  rw [h0]
  show spec_l10Stage_L3.s l k _ _ _ = _
  rw [spec_l10Stage_L3.e, if_neg (by omega)]
  rfl
theorem stageL_len (l : List T_Entry.den) (k : Int) : (stageL l k).length ≤ l.length := by
  unfold stageL
  induction l with
  | nil => simp
  | cons a r ih =>
    rw [List.flatMap_cons, List.length_append, List.length_cons]
    have : (bif decide (stg a = k) then [toF a] else []).length ≤ 1 := one_len
    omega
def findF (fs : List T_File.den) (p : ByteArray) : T_File.den := (fs.find? fun f => decide (f.1 = p)).elim zF id
theorem spec_find7 (fs : List T_File.den) (hl : fs.length ≤ 1048576) (p : ByteArray) : spec_l7Find.s fs p = some (findF fs p) := by
  rw [spec_l7Find.e]
  have := row_first0 (t := T_File) (L := fun i => spec_l7Find_L2.s fs p i noS 0 noS) (q := fun f => decide (f.1 = p)) (r := id) (d := zF) (l := fs)
    (by show spec_l7Find_L2.s fs p _ _ _ _ = _; rw [spec_l7Find_L2.e, if_neg (by omega)]; rfl)
    (fun i hi hq => by
      show spec_l7Find_L2.s fs p _ _ _ _ = _
      rw [spec_l7Find_L2.e]
      simp (disch := omega) only [if_pos, Int.toNat_natCast, nth_at hi]
      rw [if_pos (of_decide_eq_true hq)]; rfl)
    (fun i hi hq => by
      show spec_l7Find_L2.s fs p _ _ _ _ = spec_l7Find_L2.s fs p _ _ _ _
      conv => lhs; rw [spec_l7Find_L2.e]
      simp (disch := omega) only [if_pos, Int.toNat_natCast, nth_at hi, wrap_succ]
      rw [if_neg (of_decide_eq_false hq)])
  exact this
def stF (l : List T_Entry.den) (p : ByteArray) (k : Int) : T_File.den := ((ofP l p).find? fun e => decide (stg e = k)).elim zF toF
theorem stF_eq (p : ByteArray) (k : Int) : ∀ l : List T_Entry.den, findF (stageL l k) p = stF l p k
  | [] => rfl
  | a :: r => by
    have ih := stF_eq p k r
    unfold findF stF stageL ofP at ih ⊢
    rw [List.flatMap_cons, List.filter_cons]
    by_cases h : stg a = k
    · by_cases hp : a.1 = p
      · have hp' : (toF a).1 = p := hp
        rw [decide_eq_true h, decide_eq_true hp, if_pos rfl, cond_true, List.singleton_append, List.find?_cons, List.find?_cons, decide_eq_true hp', decide_eq_true h]; rfl
      · have hp' : ¬ (toF a).1 = p := hp
        rw [decide_eq_true h, decide_eq_false hp, if_neg (fun e => by cases e), cond_true, List.singleton_append, List.find?_cons, decide_eq_false hp']
        exact ih
    · rw [decide_eq_false h, cond_false, List.nil_append, ih]
      by_cases hp : a.1 = p
      · rw [decide_eq_true hp, if_pos rfl, List.find?_cons, decide_eq_false h]
      · rw [decide_eq_false hp, if_neg (fun e => by cases e)]
theorem spec_st (l : List T_Entry.den) (hl : l.length ≤ 1048576) (p : ByteArray) (k : Int) : spec_l13Stage.s l p k = some (stF l p k) := by
  have h1 := stageL_len l k
  rw [spec_l13Stage.e, spec_stage l hl, Option.bind_some, spec_find7 _ (by omega), Option.bind_some, stF_eq]
def hasB (l : List T_Object.den) (f : List T_File.den) : Bool := f.all fun x => (getO l 1 x.2.2.1).2
theorem spec_blobs_s (l : List T_Object.den) (hl : l.length ≤ 1048576) (f : List T_File.den) (hf : f.length ≤ 1048576) : ∀ (k i : Nat), i + k = f.length → spec_l11Blobs_L2.s l f i = some ((f.drop i).all fun x => (getO l 1 x.2.2.1).2)
  | 0, i, h => by rw [spec_l11Blobs_L2.e, if_neg (by omega), List.drop_eq_nil_of_le (by omega)]; rfl
  | k + 1, i, h => by
    have hi : i < f.length := by omega
    rw [spec_l11Blobs_L2.e]
    simp (disch := omega) only [if_pos, spec_get_s l hl, Option.bind_some, Int.toNat_natCast, nth_at hi, wrap_succ, spec_blobs_s l hl f hf k (i + 1)]
    rw [List.drop_eq_getElem_cons hi, List.all_cons]
    cases hc : (getO l 1 (f[i] : T_File.den).2.2.1).2 with
    | true => simp
    | false => simp
theorem good_size {l : List T_Entry.den} (h : bulk (.sl T_Entry) l ≤ 1048576) : ∀ e ∈ l, (e.1 : ByteArray).size ≤ 1048576 := by
  intro e he
  have h2 := bulk_mem (t := T_Entry) he
  have h3 : bulk T_Entry e = (e.1 : ByteArray).size + (0 + (0 + ((e.2.2.2.1 : ByteArray).size + 0))) := rfl
  have h6 : bulk (.sl T_Entry) l = l.length + (l.map (bulk T_Entry)).sum := rfl
  omega
/-! #### the reference -/
def txF (s : List T_Object.den) (f : T_File.den) : ByteArray := if zeroF f then noS else (getO s 1 f.2.2.1).1
theorem spec_tx (s : List T_Object.den) (hs : s.length ≤ 1048576) (f : T_File.den) : spec_l11Text.s s f = some (txF s f) := by
  have heq : spec_l11Text.s s f = if zeroF f then some noS else (spec_l5Get.s s 1 f.2.2.1).bind fun r0 => some r0.1 := spec_l11Text.e s f
  rw [heq, spec_get_s s hs]
  unfold txF
  split <;> rfl
def someL (l : List T_File.den) : List T_File.den := l.flatMap fun f => bif !decide (zeroF f) then [f] else []
theorem spec_some (l : List T_File.den) (hl : l.length ≤ 1048576) : spec_l11Some.s l = some (someL l) := by
  rw [spec_l11Some.e]
  have := row_flat0 (t := T_File) (L := fun i m => spec_l11Some_L3.s l m.length i m) (l := l) (g := fun f => bif !decide (zeroF f) then [f] else []) (fun x => one_len) (fun i hi m hm => by
    show spec_l11Some_L3.s l _ _ _ = spec_l11Some_L3.s l _ _ _
    conv => lhs; rw [spec_l11Some_L3.e]
    simp (disch := omega) only [if_pos, Int.toNat_natCast, nth_at hi, wrap_succ, fill1, List.length_append, List.length_cons, List.length_nil]
    by_cases h : zeroF l[i]
    · have h' : l[i].1 = noS ∧ l[i].2.1 = 0 ∧ l[i].2.2.1 = noS := h
      rw [if_pos h', decide_eq_true h]
      simp
    · have h' : ¬ (l[i].1 = noS ∧ l[i].2.1 = 0 ∧ l[i].2.2.1 = noS) := h
      rw [if_neg h', decide_eq_false h]; rfl)
  have h0 : spec_l11Some_L3.s l 0 0 [] = _ := this
  rw [h0]
  show spec_l11Some_L3.s l _ _ _ = _
  rw [spec_l11Some_L3.e, if_neg (by omega)]
  rfl
noncomputable def three (x y z : ByteArray) : Option T_TextResult.den :=
  if isBin x = true then some ((1 : Int), noS, ()) else if isBin y = true then some ((1 : Int), noS, ()) else if isBin z = true then some ((1 : Int), noS, ()) else spec_NormalText.s x y z
theorem spec_three (s : List T_Object.den) (hs : s.length ≤ 1048576) (a b c : T_File.den) (vi : Int) (vs : ByteArray) (ha : (txF s a).size ≤ 4000000000) (hb : (txF s b).size ≤ 4000000000) (hc : (txF s c).size ≤ 4000000000) :
    spec_l13PreOf_L7.s s [a, b, c] 0 0 vi vs [] = three (txF s a) (txF s b) (txF s c) := by
  have w1 : IntKind.i64.wrap ((0 : Int) + 1) = 1 := by decide
  have w2 : IntKind.i64.wrap ((1 : Int) + 1) = 2 := by decide
  have w3 : IntKind.i64.wrap ((2 : Int) + 1) = 3 := by decide
  have n0 : nth T_File [a, b, c] (Int.toNat (0 : Int)) = a := rfl
  have n1 : nth T_File [a, b, c] (Int.toNat (1 : Int)) = b := rfl
  have n2 : nth T_File [a, b, c] (Int.toNat (2 : Int)) = c := rfl
  unfold three
  rw [spec_l13PreOf_L7.e, if_pos (by decide), if_pos (by simp), n0, spec_tx s hs, Option.bind_some, fill1, if_pos (by simp), if_pos (by simp)]
  have m0 : nth Ty.str ([] ++ [txF s a]) (Int.toNat (0 : Int)) = txF s a := rfl
  rw [m0, spec_bin _ ha, Option.bind_some]
  cases h1 : isBin (txF s a) with
  | true => rw [if_pos rfl, if_pos rfl]
  | false =>
    rw [if_neg (by simp), if_neg (by simp), w1, spec_l13PreOf_L7.e, if_pos (by decide), if_pos (by simp), n1, spec_tx s hs, Option.bind_some, fill1, if_pos (by simp), if_pos (by simp)]
    have m1 : nth Ty.str ([] ++ [txF s a] ++ [txF s b]) (Int.toNat (1 : Int)) = txF s b := rfl
    rw [m1, spec_bin _ hb, Option.bind_some]
    cases h2 : isBin (txF s b) with
    | true => rw [if_pos rfl, if_pos rfl]
    | false =>
      rw [if_neg (by simp), if_neg (by simp), w2, spec_l13PreOf_L7.e, if_pos (by decide), if_pos (by simp), n2, spec_tx s hs, Option.bind_some, fill1, if_pos (by simp), if_pos (by simp)]
      have m2 : nth Ty.str ([] ++ [txF s a] ++ [txF s b] ++ [txF s c]) (Int.toNat (2 : Int)) = txF s c := rfl
      rw [m2, spec_bin _ hc, Option.bind_some]
      cases h3 : isBin (txF s c) with
      | true => rw [if_pos rfl, if_pos rfl]
      | false =>
        rw [if_neg (by simp), if_neg (by simp), w3, spec_l13PreOf_L7.e, if_neg (by decide), if_pos (by simp), if_pos (by simp), if_pos (by simp)]
        have q0 : nth Ty.str ([] ++ [txF s a] ++ [txF s b] ++ [txF s c]) (Int.toNat (0 : Int)) = txF s a := rfl
        have q1 : nth Ty.str ([] ++ [txF s a] ++ [txF s b] ++ [txF s c]) (Int.toNat (1 : Int)) = txF s b := rfl
        rw [q0, q1, m2]
        cases spec_NormalText.s (txF s a) (txF s b) (txF s c) <;> rfl
noncomputable def preS (s : List T_Object.den) (a b c : T_File.den) : Option T_TextResult.den :=
  if zeroF b then some ((4 : Int), noS, ()) else if zeroF c then some ((4 : Int), noS, ()) else
  if hasB s (someL [a, b, c]) = true then three (txF s a) (txF s b) (txF s c) else some ((4 : Int), noS, ())
theorem getO_size {s : List T_Object.den} (ho : OkStore s) (k : Int) (id : ByteArray) : (getO s k id).1.size ≤ 2000 := by
  unfold getO
  split
  · rename_i i hp
    split
    · have hi := plc_lt hp
      have := okObj (ho.obj _ (List.getElem_mem hi)).1
      rw [nth_at hi]
      exact tf_size this.2.2
    · exact Nat.zero_le _
  · exact Nat.zero_le _
theorem txF_size {s : List T_Object.den} (ho : OkStore s) (f : T_File.den) : (txF s f).size ≤ 2000 := by
  unfold txF
  split
  · exact Nat.zero_le _
  · exact getO_size ho _ _
theorem spec_pre {s : List T_Object.den} (ho : OkStore s) (hs : s.length ≤ 1048576) (l : List T_Entry.den) (hl : l.length ≤ 1048576) (p : ByteArray) : spec_l13PreOf.s s l p = preS s (stF l p 1) (stF l p 2) (stF l p 3) := by
  rw [spec_l13PreOf.e, spec_st l hl, spec_st l hl, spec_st l hl]
  simp only [Option.bind_some]
  generalize stF l p 1 = a
  generalize stF l p 2 = b
  generalize stF l p 3 = c
  have h1 : fillElems [((0 : Nat), a.1, a.2.1, a.2.2.1, ()), ((1 : Nat), b.1, b.2.1, b.2.2.1, ()), ((2 : Nat), c.1, c.2.1, c.2.2.1, ())] (List.replicate (3 : Nat) (noS, (0 : Int), noS, ())) = [a, b, c] := rfl
  rw [h1]
  have e1 : nth T_Object [a, b, c] (Int.toNat (1 : Int)) = b := rfl
  have e2 : nth T_Object [a, b, c] (Int.toNat (2 : Int)) = c := rfl
  rw [e1, e2]
  unfold preS
  by_cases hb : zeroF b
  · rw [if_pos hb]
    simp only [zeroF] at hb
    rw [if_pos hb]
  · rw [if_neg hb]
    have hb' : ¬ (b.1 = noS ∧ b.2.1 = 0 ∧ b.2.2.1 = noS) := hb
    rw [if_neg hb']
    by_cases hc : zeroF c
    · rw [if_pos hc]
      simp only [zeroF] at hc
      rw [if_pos hc]
    · have hc' : ¬ (c.1 = noS ∧ c.2.1 = 0 ∧ c.2.2.1 = noS) := hc
      rw [if_neg hc, if_neg hc', spec_some [a, b, c] (by simp), Option.bind_some, spec_l11Blobs.e]
      have hsl : (someL [a, b, c]).length ≤ 3 := by
        unfold someL
        simp only [List.flatMap_cons, List.flatMap_nil, List.length_append, List.length_nil]
        have := one_len (c := !decide (zeroF a)) (x := a)
        have := one_len (c := !decide (zeroF b)) (x := b)
        have := one_len (c := !decide (zeroF c)) (x := c)
        omega
      have := spec_blobs_s s hs (someL [a, b, c]) (by omega) (someL [a, b, c]).length 0 (by omega)
      have h0 : spec_l11Blobs_L2.s s (someL [a, b, c]) 0 = _ := this
      rw [h0, Option.bind_some, List.drop_zero]
      have hh : ((someL [a, b, c]).all fun x => (getO s 1 x.2.2.1).2) = hasB s (someL [a, b, c]) := rfl
      rw [hh]
      have t1 := txF_size ho a
      have t2 := txF_size ho b
      have t3 := txF_size ho c
      cases hasB s (someL [a, b, c]) with
      | true => rw [if_pos rfl, if_pos rfl]; exact spec_three s hs a b c _ _ (by omega) (by omega) (by omega)
      | false => rw [if_neg (by simp), if_neg (by simp)]
/-! #### the program -/
structure PS where
  miss : Bool
  bin : Bool
  T : List ByteArray
  Hs : List Bool
def stp (s : List T_Object.den) (σ : PS) (e : T_Entry.den) : PS :=
  ⟨σ.miss || !(getO s 1 e.2.2.2.1).2, σ.bin || isBin (getO s 1 e.2.2.2.1).1, σ.T.set (stg e).toNat (getO s 1 e.2.2.2.1).1, σ.Hs.set (stg e).toNat true⟩
noncomputable def fin4 (σ : PS) : Option T_TextResult.den :=
  if nth .bool σ.Hs 2 = true ∧ nth .bool σ.Hs 3 = true ∧ σ.miss = false then (if σ.bin = true then some ((1 : Int), noS, ()) else impl_NormalText.s (nth .str σ.T 1) (nth .str σ.T 2) (nth .str σ.T 3)) else some ((4 : Int), noS, ())
theorem impl_pre_end (s : List T_Object.den) (p : ByteArray) (l : List T_Entry.den) (σ : PS) (vi : Int) (vs : ByteArray) : impl_preOf_L3.s s p σ.miss σ.bin l l.length l.length vi vs σ.T σ.Hs = fin4 σ := by
  have c2 : ∀ a b : Int, impl_firstCode.s (fillElems [((0 : Nat), a), ((1 : Nat), b)] (List.replicate (2 : Nat) (0 : Int))) = some (if a = 0 then b else a) := firstCode2_s
  rw [impl_preOf_L3.e, if_neg (by omega)]
  unfold fin4
  have e2 : nth Ty.bool σ.Hs (Int.toNat (2 : Int)) = nth Ty.bool σ.Hs 2 := rfl
  have e3 : nth Ty.bool σ.Hs (Int.toNat (3 : Int)) = nth Ty.bool σ.Hs 3 := rfl
  have t1 : nth Ty.str σ.T (Int.toNat (1 : Int)) = nth Ty.str σ.T 1 := rfl
  have t2 : nth Ty.str σ.T (Int.toNat (2 : Int)) = nth Ty.str σ.T 2 := rfl
  have t3 : nth Ty.str σ.T (Int.toNat (3 : Int)) = nth Ty.str σ.T 3 := rfl
  simp only [e2, e3, t1, t2, t3, codeIf_s, c2, Option.bind_some]
  cases nth Ty.bool σ.Hs 2 <;> cases nth Ty.bool σ.Hs 3 <;> cases σ.miss <;> cases σ.bin <;> simp
theorem impl_pre_loop {s : List T_Object.den} (ho : OkStore s) (p : ByteArray) (l : List T_Entry.den) (hl : l.length ≤ 1048576) (hst : ∀ j (h : j < l.length), 0 ≤ stg l[j] ∧ stg l[j] ≤ 3) (vi : Int) (vs : ByteArray) : ∀ (k i : Nat) (σ : PS), i + k = l.length →
    impl_preOf_L3.s s p σ.miss σ.bin l l.length i vi vs σ.T σ.Hs = fin4 ((ofP (l.drop i) p).foldl (stp s) σ)
  | 0, i, σ, h => by
    have hi : i = l.length := by omega
    subst hi
    rw [List.drop_length, impl_pre_end]; rfl
  | k + 1, i, σ, h => by
    have hi : i < l.length := by omega
    have hs := hst i hi
    have hst4 : (0 : Int) ≤ stg l[i] ∧ stg l[i] < ((4 : Nat) : Int) := by omega
    by_cases hp : l[i].1 = p
    · have hd : ofP (l.drop i) p = l[i] :: ofP (l.drop (i + 1)) p := by
        rw [List.drop_eq_getElem_cons hi]
        unfold ofP
        rw [List.filter_cons, if_pos (decide_eq_true hp)]
      rw [hd, List.foldl_cons, ← impl_pre_loop ho p l hl hst vi vs k (i + 1) (stp s σ l[i]) (by omega)]
      conv => lhs; rw [impl_preOf_L3.e]
      simp (disch := omega) only [if_pos, Int.toNat_natCast, nth_at hi, wrap_succ]
      simp only [hp, if_true, impl_get_s ho, Option.bind_some, impl_bin]
      unfold stp
      cases σ.miss <;> cases σ.bin <;> simp
    · have hd : ofP (l.drop i) p = ofP (l.drop (i + 1)) p := by
        rw [List.drop_eq_getElem_cons hi]
        unfold ofP
        rw [List.filter_cons, if_neg (by rw [decide_eq_false hp]; simp)]
      rw [hd, ← impl_pre_loop ho p l hl hst vi vs k (i + 1) σ (by omega)]
      conv => lhs; rw [impl_preOf_L3.e]
      simp (disch := omega) only [if_pos, Int.toNat_natCast, nth_at hi, wrap_succ]
      rw [if_neg hp]
theorem three_norm (x y z : ByteArray) : ∃ r, three x y z = some r ∧ (if (isBin x || isBin y || isBin z) = true then some ((1 : Int), noS, ()) else impl_NormalText.s x y z) = some r := by
  obtain ⟨r, r1, r2⟩ := normal_all x y z
  unfold three
  cases isBin x with
  | true => exact ⟨_, rfl, rfl⟩
  | false => cases isBin y with
    | true => exact ⟨_, rfl, rfl⟩
    | false => cases isBin z with
      | true => exact ⟨_, rfl, rfl⟩
      | false => exact ⟨r, by simpa using r1, by simpa using r2⟩
theorem toF_nz {e : T_Entry.den} (h : isM e.2.2.1 = true) : ¬ zeroF (toF e) := by
  rintro ⟨_, h2, _⟩
  have h2 : e.2.2.1 = 0 := h2
  rw [h2] at h
  cases h
def σ0 : PS := ⟨false, false, [noS, noS, noS, noS], [false, false, false, false]⟩
theorem txF_toF (s : List T_Object.den) {e : T_Entry.den} (h : ¬ zeroF (toF e)) : txF s (toF e) = (getO s 1 e.2.2.2.1).1 := by unfold txF; rw [if_neg h]; rfl
theorem txF_zF (s : List T_Object.den) : txF s zF = noS := by unfold txF; rw [if_pos zeroF_z]
theorem hasB_cons (s : List T_Object.den) (f : T_File.den) (r : List T_File.den) : hasB s (f :: r) = ((getO s 1 f.2.2.1).2 && hasB s r) := rfl
theorem someL_nz {f : T_File.den} (h : ¬ zeroF f) (r : List T_File.den) : someL (f :: r) = f :: someL r := by unfold someL; rw [List.flatMap_cons, decide_eq_false h]; rfl
theorem someL_z {f : T_File.den} (h : zeroF f) (r : List T_File.den) : someL (f :: r) = someL r := by unfold someL; rw [List.flatMap_cons, decide_eq_true h]; rfl
theorem few_pre {s : List T_Object.den} {M : List T_Entry.den} (hf : Few M) (hm : ∀ e ∈ M, isM e.2.2.1 = true) :
    ∃ r, preS s ((M.find? fun e => decide (stg e = 1)).elim zF toF) ((M.find? fun e => decide (stg e = 2)).elim zF toF) ((M.find? fun e => decide (stg e = 3)).elim zF toF) = some r ∧ fin4 (M.foldl (stp s) σ0) = some r := by
  have no4 : ∀ (σ : PS), (nth .bool σ.Hs 2 = false ∨ nth .bool σ.Hs 3 = false) → fin4 σ = some ((4 : Int), noS, ()) := by
    intro σ h
    unfold fin4
    rw [if_neg]
    rintro ⟨h1, h2, _⟩
    rcases h with h | h
    · rw [h] at h1; cases h1
    · rw [h] at h2; cases h2
  have noS1 : ∀ a b c, (zeroF b ∨ zeroF c) → preS s a b c = some ((4 : Int), noS, ()) := by
    intro a b c h
    unfold preS
    by_cases hb : zeroF b
    · rw [if_pos hb]
    · rw [if_neg hb, if_pos (h.resolve_left hb)]
  cases hf with
  | nil => exact ⟨_, noS1 _ _ _ (.inl zeroF_z), no4 _ (.inl rfl)⟩
  | one a h =>
    refine ⟨_, noS1 _ _ _ ?_, no4 _ ?_⟩
    · by_cases h2 : stg a = 2
      · right; simp [h2, zeroF_z]
      · left; simp [h2, zeroF_z]
    · simp only [List.foldl_cons, List.foldl_nil, stp, σ0]
      by_cases h2 : stg a = 2
      · right; rw [h2]; rfl
      · left
        have : (stg a).toNat = 0 ∨ (stg a).toNat = 1 ∨ (stg a).toNat = 3 := by omega
        rcases this with h | h | h <;> rw [h] <;> rfl
  | two a b h =>
    have ma := toF_nz (hm a (by simp))
    have mb := toF_nz (hm b (by simp))
    have : (stg a = 1 ∧ stg b = 2) ∨ (stg a = 1 ∧ stg b = 3) ∨ (stg a = 2 ∧ stg b = 3) := by omega
    rcases this with ⟨h1, h2⟩ | ⟨h1, h2⟩ | ⟨h1, h2⟩
    · refine ⟨_, noS1 _ _ _ (.inr ?_), no4 _ (.inr ?_)⟩
      · simp [h1, h2, zeroF_z]
      · simp only [List.foldl_cons, List.foldl_nil, stp, σ0, h1, h2]; rfl
    · refine ⟨_, noS1 _ _ _ (.inl ?_), no4 _ (.inl ?_)⟩
      · simp [h1, h2, zeroF_z]
      · simp only [List.foldl_cons, List.foldl_nil, stp, σ0, h1, h2]; rfl
    · obtain ⟨r, r1, r2⟩ := three_norm noS (getO s 1 a.2.2.2.1).1 (getO s 1 b.2.2.2.1).1
      have f1 : (([a, b].find? fun e => decide (stg e = 1)).elim zF toF) = zF := by simp [h1, h2]
      have f2 : (([a, b].find? fun e => decide (stg e = 2)).elim zF toF) = toF a := by simp [h1, h2]
      have f3 : (([a, b].find? fun e => decide (stg e = 3)).elim zF toF) = toF b := by simp [h1, h2]
      rw [f1, f2, f3]
      unfold preS
      rw [if_neg ma, if_neg mb, someL_z zeroF_z, someL_nz ma, someL_nz mb, hasB_cons, hasB_cons, txF_toF s ma, txF_toF s mb, txF_zF]
      have e3 : hasB s (someL []) = true := rfl
      rw [e3, Bool.and_true]
      have eF : [a, b].foldl (stp s) σ0 = ⟨false || !(getO s 1 a.2.2.2.1).2 || !(getO s 1 b.2.2.2.1).2, false || isBin (getO s 1 a.2.2.2.1).1 || isBin (getO s 1 b.2.2.2.1).1, [noS, noS, (getO s 1 a.2.2.2.1).1, (getO s 1 b.2.2.2.1).1], [false, false, true, true]⟩ := by
        simp only [List.foldl_cons, List.foldl_nil, stp, σ0, h1, h2]; rfl
      rw [eF]
      have ia : (getO s 1 (toF a).2.2.1).2 = (getO s 1 a.2.2.2.1).2 := rfl
      have ib : (getO s 1 (toF b).2.2.1).2 = (getO s 1 b.2.2.2.1).2 := rfl
      rw [ia, ib]
      unfold fin4
      have n2 : nth .bool [false, false, true, true] 2 = true := rfl
      have n3 : nth .bool [false, false, true, true] 3 = true := rfl
      have q1 : nth .str [noS, noS, (getO s 1 a.2.2.2.1).1, (getO s 1 b.2.2.2.1).1] 1 = noS := rfl
      have q2 : nth .str [noS, noS, (getO s 1 a.2.2.2.1).1, (getO s 1 b.2.2.2.1).1] 2 = (getO s 1 a.2.2.2.1).1 := rfl
      have q3 : nth .str [noS, noS, (getO s 1 a.2.2.2.1).1, (getO s 1 b.2.2.2.1).1] 3 = (getO s 1 b.2.2.2.1).1 := rfl
      simp only [n2, n3, q1, q2, q3]
      rw [isBin_no] at r2
      cases (getO s 1 a.2.2.2.1).2 <;> cases (getO s 1 b.2.2.2.1).2
      · exact ⟨_, rfl, rfl⟩
      · exact ⟨_, rfl, rfl⟩
      · exact ⟨_, rfl, rfl⟩
      · exact ⟨r, by simpa using r1, by simpa using r2⟩
  | three a b c h =>
    obtain ⟨h1, h2, h3⟩ := h
    have ma := toF_nz (hm a (by simp))
    have mb := toF_nz (hm b (by simp))
    have mc := toF_nz (hm c (by simp))
    obtain ⟨r, r1, r2⟩ := three_norm (getO s 1 a.2.2.2.1).1 (getO s 1 b.2.2.2.1).1 (getO s 1 c.2.2.2.1).1
    have f1 : (([a, b, c].find? fun e => decide (stg e = 1)).elim zF toF) = toF a := by simp [h1]
    have f2 : (([a, b, c].find? fun e => decide (stg e = 2)).elim zF toF) = toF b := by simp [h1, h2]
    have f3 : (([a, b, c].find? fun e => decide (stg e = 3)).elim zF toF) = toF c := by simp [h1, h2, h3]
    rw [f1, f2, f3]
    unfold preS
    rw [if_neg mb, if_neg mc, someL_nz ma, someL_nz mb, someL_nz mc, hasB_cons, hasB_cons, hasB_cons, txF_toF s ma, txF_toF s mb, txF_toF s mc]
    have e3 : hasB s (someL []) = true := rfl
    rw [e3, Bool.and_true]
    have eF : [a, b, c].foldl (stp s) σ0 = ⟨false || !(getO s 1 a.2.2.2.1).2 || !(getO s 1 b.2.2.2.1).2 || !(getO s 1 c.2.2.2.1).2, false || isBin (getO s 1 a.2.2.2.1).1 || isBin (getO s 1 b.2.2.2.1).1 || isBin (getO s 1 c.2.2.2.1).1,
        [noS, (getO s 1 a.2.2.2.1).1, (getO s 1 b.2.2.2.1).1, (getO s 1 c.2.2.2.1).1], [false, true, true, true]⟩ := by
      simp only [List.foldl_cons, List.foldl_nil, stp, σ0, h1, h2, h3]; rfl
    rw [eF]
    have ia : (getO s 1 (toF a).2.2.1).2 = (getO s 1 a.2.2.2.1).2 := rfl
    have ib : (getO s 1 (toF b).2.2.1).2 = (getO s 1 b.2.2.2.1).2 := rfl
    have ic : (getO s 1 (toF c).2.2.1).2 = (getO s 1 c.2.2.2.1).2 := rfl
    rw [ia, ib, ic]
    unfold fin4
    have n2 : nth .bool [false, true, true, true] 2 = true := rfl
    have n3 : nth .bool [false, true, true, true] 3 = true := rfl
    have q1 : nth .str [noS, (getO s 1 a.2.2.2.1).1, (getO s 1 b.2.2.2.1).1, (getO s 1 c.2.2.2.1).1] 1 = (getO s 1 a.2.2.2.1).1 := rfl
    have q2 : nth .str [noS, (getO s 1 a.2.2.2.1).1, (getO s 1 b.2.2.2.1).1, (getO s 1 c.2.2.2.1).1] 2 = (getO s 1 b.2.2.2.1).1 := rfl
    have q3 : nth .str [noS, (getO s 1 a.2.2.2.1).1, (getO s 1 b.2.2.2.1).1, (getO s 1 c.2.2.2.1).1] 3 = (getO s 1 c.2.2.2.1).1 := rfl
    simp only [n2, n3, q1, q2, q3]
    cases (getO s 1 a.2.2.2.1).2 <;> cases (getO s 1 b.2.2.2.1).2 <;> cases (getO s 1 c.2.2.2.1).2
    · exact ⟨_, rfl, rfl⟩
    · exact ⟨_, rfl, rfl⟩
    · exact ⟨_, rfl, rfl⟩
    · exact ⟨_, rfl, rfl⟩
    · exact ⟨_, rfl, rfl⟩
    · exact ⟨_, rfl, rfl⟩
    · exact ⟨_, rfl, rfl⟩
    · exact ⟨r, by simpa using r1, by simpa using r2⟩
theorem preOf_all {s : List T_Object.den} (ho : OkStore s) (hs : s.length ≤ 1048576) {l : List T_Entry.den} (hl : l.length ≤ 1048576) (hix : OkIx l l.length) (p : ByteArray) : ∃ r, spec_l13PreOf.s s l p = some r ∧ impl_preOf.s s l p = some r := by
  obtain ⟨r, r1, r2⟩ := few_pre (s := s) (few_of hix p) fun e he => by
    obtain ⟨m, _⟩ := List.mem_filter.1 he
    obtain ⟨i, hi, rfl⟩ := List.getElem_of_mem m
    exact (hix.md i hi hi).2.1
  refine ⟨r, ?_, ?_⟩
  · rw [spec_pre ho hs l hl]; exact r1
  · rw [impl_preOf.e]
    have := impl_pre_loop ho p l hl (fun j hj => hix.st j hj hj) 0 noS l.length 0 σ0 (by omega)
    rw [List.drop_zero] at this
    exact this.trans r2
end Go.Proofs.YtmojilihllhadaaGreatDoor.Ev
