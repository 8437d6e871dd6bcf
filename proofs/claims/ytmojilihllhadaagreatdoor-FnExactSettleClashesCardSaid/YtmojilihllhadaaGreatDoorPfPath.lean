/- Names and paths: both ways tell the same code. -/
import Derived.Test.YtmojilihllhadaaGreatDoorPfOrd
set_option linter.unusedVariables false
set_option linter.unusedSimpArgs false
namespace Go.Proofs.YtmojilihllhadaaGreatDoor.Ev
open Go

/-! #### the parts of a path -/
def prt : List UInt8 → List UInt8 → List (List UInt8)
  | cur, [] => [cur]
  | cur, b :: r => match b == 47 with
    | true => cur :: prt [] r
    | false => prt (cur ++ [b]) r
def partsL (s : ByteArray) : List ByteArray := (prt [] s.data.toList).map ba
theorem prt_len : ∀ (l cur : List UInt8), (prt cur l).length = l.count 47 + 1
  | [], _ => rfl
  | b :: r, cur => by
    simp only [prt]
    cases hb : (b == 47) with
    | true => simp only [List.length_cons, prt_len r]; rw [List.count_cons, hb]; simp
    | false => simp only [prt_len r]; rw [List.count_cons, hb]; simp
theorem partsL_len (s : ByteArray) : (partsL s).length ≤ s.size + 1 := by
  unfold partsL
  rw [List.length_map, prt_len, Go.Lib.size_eq s]
  have := List.count_le_length (a := (47 : UInt8)) (l := s.data.toList)
  omega
theorem idx47 : ∀ (l : List UInt8), (Go.Lib.indexByte l 47 = -1 ∧ l.count 47 = 0 ∧ ∀ cur, prt cur l = [cur ++ l]) ∨
    ∃ k : Nat, Go.Lib.indexByte l 47 = (k : Int) ∧ k < l.length ∧ (∀ cur, prt cur l = (cur ++ l.take k) :: prt [] (l.drop (k + 1))) ∧ l.count 47 = (l.drop (k + 1)).count 47 + 1
  | [] => .inl ⟨rfl, rfl, fun cur => by simp [prt]⟩
  | b :: r => by
    cases hb : (b == 47) with
    | true =>
      refine .inr ⟨0, by simp [Go.Lib.indexByte, hb], by simp, fun cur => by simp [prt, hb], ?_⟩
      rw [List.count_cons, hb]; simp
    | false =>
      rcases idx47 r with ⟨h1, h2, h3⟩ | ⟨k, h1, h2, h3, h4⟩
      · refine .inl ⟨by simp [Go.Lib.indexByte, hb, h1], by rw [List.count_cons, hb, h2]; rfl, fun cur => by simp [prt, hb, h3]⟩
      · refine .inr ⟨k + 1, ?_, by simpa using h2, fun cur => by simp [prt, hb, h3], ?_⟩
        · have hne : ((k : Int) == -1) = false := by rw [beq_eq_false_iff_ne]; omega
          simp only [Go.Lib.indexByte, hb, h1, hne, Bool.false_eq_true, if_false]; omega
        · rw [List.count_cons, hb, h4]; simp

theorem byte_eq47 (c : UInt8) : ((c.toNat : Int) = 47) ↔ (c == 47) = true := by
  rw [beq_iff_eq]
  constructor
  · intro h; exact UInt8.toNat_inj.1 (by show c.toNat = 47; omega)
  · rintro rfl; rfl
theorem parts_L4 (D : List UInt8) (hD : D.length ≤ 1048576) : ∀ (k from_ i : Nat) (m : List ByteArray), i + k = D.length → from_ ≤ i → m.length ≤ i →
    spec_l7Parts_L4.s (ba D) m.length (from_ : Int) (i : Int) m = some (m ++ (prt ((D.drop from_).take (i - from_)) (D.drop i)).map ba)
  | 0, from_, i, m, hk, hf, hm => by
    have hi : i = D.length := by omega
    rw [spec_l7Parts_L4.e]
    simp (disch := omega) only [if_pos, ba_size, fill1, List.length_cons, List.length_nil, wrap_succ, Int.toNat_natCast, ba_extract]
    rw [spec_l7Parts_L4.e, if_neg (by rw [ba_size]; omega), List.drop_eq_nil_of_le (by omega : D.length ≤ i)]
    rfl
  | k + 1, from_, i, m, hk, hf, hm => by
    have hi : i < D.length := by omega
    have hcur : (D.drop from_).take (i + 1 - from_) = (D.drop from_).take (i - from_) ++ [D[i]] := by
      rw [show i + 1 - from_ = (i - from_) + 1 by omega, List.take_succ_eq_append_getElem (by simp; omega)]
      simp only [List.getElem_drop]
      congr 3
      omega
    rw [List.drop_eq_getElem_cons hi]
    simp only [prt]
    rw [spec_l7Parts_L4.e]
    simp (disch := omega) only [if_pos, if_neg, ba_size, fill1, List.length_cons, List.length_nil, wrap_succ, Int.toNat_natCast, ba_extract, ba_byte hi]
    cases hc : (D[i] == 47) with
    | true =>
      rw [if_pos ((byte_eq47 _).2 hc)]
      have := parts_L4 D hD k (i + 1) (i + 1) (m ++ [ba ((D.drop from_).take (i - from_))]) (by omega) (by omega) (by simp; omega)
      rw [this]
      simp
    | false =>
      rw [if_neg (fun h => by have := (byte_eq47 _).1 h; rw [hc] at this; cases this)]
      rw [parts_L4 D hD k from_ (i + 1) m (by omega) (by omega) (by omega), hcur]
theorem spec_parts (s : ByteArray) (h : s.size ≤ 1048576) : spec_l7Parts.s s = some (partsL s) := by
  rw [spec_l7Parts.e]
  have := parts_L4 s.data.toList (by rw [← Go.Lib.size_eq]; exact h) s.data.toList.length 0 0 [] (by omega) (by omega) (by simp)
  rw [ba_self] at this
  simpa [partsL] using this

def sl : ByteArray := ByteArray.mk #[(47 : UInt8)]
theorem sl_ne : sl ≠ noS := fun h => by
  have := congrArg ByteArray.size h
  cases this
theorem sl_size : (sl.size : Int) = 1 := rfl
theorem count_sl (l : List UInt8) : strings_Count.s (ba l) sl = some ((l.count 47 : Nat) : Int) := by
  rw [strings_Count.e, if_neg (by decide), if_pos (by decide), if_pos (by decide)]; rfl
theorem index_sl (l : List UInt8) : strings_Index.s (ba l) sl = some (Go.Lib.indexByte l 47) := by
  rw [strings_Index.e, stringslite_Index.e, if_neg (by decide)]
  by_cases h : sl = ba l
  · have hl : l = [47] := by
      have := congrArg (fun x : ByteArray => x.data.toList) h
      exact this.symm
    subst hl
    rw [if_pos h]; rfl
  · rw [if_neg h, if_pos (by decide), if_pos (by decide), stringslite_IndexByte.e]; rfl

theorem split47 : ∀ (c i : Nat) (r : List UInt8) (a : List ByteArray), i + r.length ≤ 1048577 → r.count 47 = c → a.length = i + c + 1 →
    strings_genSplit_L11.s (ba r) sl 0 ((i + c : Nat) : Int) (i + c + 1) (i : Int) a = some (a.take i ++ (prt [] r).map ba)
  | 0, i, r, a, hr, hc, ha => by
    rcases idx47 r with ⟨_, _, h3⟩ | ⟨k, _, _, _, h4⟩
    · rw [strings_genSplit_L11.e]
      simp (disch := omega) only [if_pos, if_neg, wrap_succ, Int.toNat_natCast]
      rw [List.drop_zero, Nat.sub_zero, take_set (by omega), h3]
      rfl
    · omega
  | c + 1, i, r, a, hr, hc, ha => by
    rcases idx47 r with ⟨_, h2, _⟩ | ⟨k, h1, h2, h3, h4⟩
    · omega
    · have hd : (r.drop (k + 1)).take (r.length - (k + 1)) = r.drop (k + 1) := List.take_of_length_le (by simp)
      rw [strings_genSplit_L11.e]
      simp (disch := omega) only [if_pos, if_neg, wrap_succ, Int.toNat_natCast, index_sl, Option.bind_some, h1, sl_size, ba_size, Int.add_zero, wrap_nat, ba_extract, List.drop_zero, Nat.sub_zero, hd]
      have := split47 c (i + 1) (r.drop (k + 1)) (a.set i (ba (r.take k))) (by simp; omega) (by omega) (by simp; omega)
      rw [take_set (by omega)] at this
      rw [show i + 1 + c = i + (c + 1) by omega] at this
      rw [this, h3, List.nil_append, List.map_cons]
      simp
theorem impl_split (s : ByteArray) (h : s.size ≤ 1048576) : strings_Split.s s (ByteArray.mk #[(47 : UInt8)]) = some (partsL s) := by
  show strings_Split.s s sl = _
  have hcl : s.data.toList.count 47 ≤ s.data.toList.length := List.count_le_length
  have hsz : s.size = s.data.toList.length := Go.Lib.size_eq s
  unfold partsL
  generalize hD : s.data.toList = D at hcl hsz
  have hs : s = ba D := by rw [← hD, ba_self]
  subst hs
  have hw1 : IntKind.i64.wrap (((ba D).size : Int) + 1) = ((D.length + 1 : Nat) : Int) := by rw [ba_size]; exact wrap_succ (by omega)
  have hw2 : IntKind.i64.wrap (((D.count 47 : Nat) : Int) + 1) = ((D.count 47 + 1 : Nat) : Int) := wrap_succ (by omega)
  have hif : (if ((D.length + 1 : Nat) : Int) < ((D.count 47 + 1 : Nat) : Int) then ((D.length + 1 : Nat) : Int) else ((D.count 47 + 1 : Nat) : Int)) = ((D.count 47 + 1 : Nat) : Int) := if_neg (by omega)
  rw [strings_Split.e, strings_genSplit.e, if_neg (by omega), if_neg sl_ne, if_pos (by omega), count_sl, Option.bind_some]
  simp only [hw1, hw2, hif]
  rw [if_pos (by omega)]
  have hw3 : IntKind.i64.wrap (((D.count 47 + 1 : Nat) : Int) - 1) = ((0 + D.count 47 : Nat) : Int) := by rw [wrap_pred (by omega) (by omega)]; congr 1; omega
  rw [hw3, Int.toNat_natCast, List.length_replicate]
  have := split47 (D.count 47) 0 D (List.replicate (D.count 47 + 1) noS) (by omega) rfl (by simp)
  simp only [List.take_zero, List.nil_append] at this
  rw [show 0 + D.count 47 + 1 = D.count 47 + 1 by omega] at this
  have this : strings_genSplit_L11.s (ba D) sl 0 ((0 + D.count 47 : Nat) : Int) (D.count 47 + 1) (0 : Int) (List.replicate (D.count 47 + 1) noS) = _ := this
  rw [this]; rfl

/-! #### names -/
def nbP (c : Int) : Prop := 97 ≤ c ∧ c ≤ 122 ∨ 48 ≤ c ∧ c ≤ 57 ∨ c = 46 ∨ c = 95 ∨ c = 45
instance (c : Int) : Decidable (nbP c) := by unfold nbP; infer_instance
theorem spec_nb (c : Int) : spec_l6NameByte.s c = some (decide (nbP c)) := by
  rw [spec_l6NameByte.e]
  by_cases hn : nbP c
  · rw [decide_eq_true hn]
    unfold nbP at hn
    repeat' split
    all_goals first | rfl | (exfalso; omega) | (congr 1; rw [beq_iff_eq]; omega)
  · rw [decide_eq_false hn]
    unfold nbP at hn
    repeat' split
    all_goals first | rfl | (exfalso; omega) | (congr 1; rw [beq_eq_false_iff_ne]; omega)
theorem impl_nb (xs : ByteArray) (n i : Int) (h : i < n) (h0 : 0 ≤ i ∧ i < (xs.size : Int)) : impl_NameFault_L4.s xs n i = if nbP (byteAt xs i.toNat) then impl_NameFault_L4.s xs n (IntKind.i64.wrap (i + 1)) else some 1 := by
  conv => lhs; rw [impl_NameFault_L4.e, if_pos h, if_pos h0]
  generalize byteAt xs i.toNat = c
  generalize impl_NameFault_L4.s xs n (IntKind.i64.wrap (i + 1)) = v
  by_cases hn : nbP c
  · rw [if_pos hn]
    unfold nbP at hn
    repeat' split
    all_goals first | rfl | (exfalso; omega)
  · rw [if_neg hn]
    unfold nbP at hn
    repeat' split
    all_goals first | rfl | (exfalso; omega)
theorem name_loop (s : ByteArray) (hs : s.size ≤ 1048576) : ∀ (k i : Nat), i + k = s.size → ∃ r, spec_NameFault_L4.s s i = some r ∧ impl_NameFault_L4.s s s.size i = some r
  | 0, i, h => ⟨0, by rw [spec_NameFault_L4.e, if_neg (by omega)], by rw [impl_NameFault_L4.e, if_neg (by omega)]⟩
  | k + 1, i, h => by
    rw [spec_NameFault_L4.e, if_pos (by omega), if_pos (by omega), spec_nb, Option.bind_some, impl_nb _ _ _ (by omega) (by omega), wrap_succ (by omega)]
    by_cases hn : nbP (byteAt s (i : Int).toNat)
    · rw [if_pos (decide_eq_true hn), if_pos hn]
      exact name_loop s hs k (i + 1) (by omega)
    · rw [if_neg (by simpa using hn), if_neg hn]
      exact ⟨_, rfl, rfl⟩
theorem name_ex (s : ByteArray) : ∃ r, spec_NameFault.s s = some r ∧ impl_NameFault.s s = some r := by
  rw [spec_NameFault.e, impl_NameFault.e]
  by_cases h1 : (s.size : Int) < 1
  · rw [if_pos h1, if_pos h1]; exact ⟨_, rfl, rfl⟩
  rw [if_neg h1, if_neg h1]
  by_cases h2 : (s.size : Int) > 12
  · rw [if_pos h2, if_pos h2]; exact ⟨_, rfl, rfl⟩
  rw [if_neg h2, if_neg h2]
  by_cases h3 : s = ByteArray.mk #[(46 : UInt8)]
  · rw [if_pos h3, if_pos h3]; exact ⟨_, rfl, rfl⟩
  rw [if_neg h3, if_neg h3]
  by_cases h4 : s = ByteArray.mk #[(46 : UInt8), (46 : UInt8)]
  · rw [if_pos h4, if_pos h4]; exact ⟨_, rfl, rfl⟩
  rw [if_neg h4, if_neg h4]
  exact name_loop s (by omega) s.size 0 (by omega)
noncomputable def nf (s : ByteArray) : Int := (spec_NameFault.s s).getD 0
theorem spec_nf (s : ByteArray) : spec_NameFault.s s = some (nf s) := by obtain ⟨r, h, _⟩ := name_ex s; unfold nf; rw [h]; rfl
theorem impl_nf (s : ByteArray) : impl_NameFault.s s = some (nf s) := by obtain ⟨r, h, h'⟩ := name_ex s; unfold nf; rw [h, h']; rfl

/-! #### paths -/
noncomputable def okN (l : List ByteArray) : Bool := l.all fun x => decide (nf x = 0)
theorem path_spec (l : List ByteArray) (hl : l.length ≤ 1048577) : ∀ (k i : Nat), i + k = l.length → spec_PathFault_L5.s l i = some (if okN (l.drop i) = true then 0 else 1)
  | 0, i, h => by rw [spec_PathFault_L5.e, if_neg (by omega), List.drop_eq_nil_of_le (by omega)]; rfl
  | k + 1, i, h => by
    have hi : i < l.length := by omega
    rw [spec_PathFault_L5.e]
    simp (disch := omega) only [if_pos, spec_nf, Option.bind_some, Int.toNat_natCast, nth_at (t := .str) hi, wrap_succ, path_spec l hl k (i + 1)]
    rw [List.drop_eq_getElem_cons hi]
    unfold okN
    rw [List.all_cons]
    by_cases hn : nf l[i] = 0
    · rw [if_pos hn, decide_eq_true hn, Bool.true_and]
    · rw [if_neg hn, decide_eq_false hn, Bool.false_and]; rfl
theorem path_impl (l : List ByteArray) (hl : l.length ≤ 1048577) : ∀ (k i : Nat), i + k = l.length → ∃ r, slices_IndexFunc___string_string__L2.s l l.length i = some r ∧ decide (r ≥ 0) = !okN (l.drop i)
  | 0, i, h => ⟨-1, by rw [slices_IndexFunc___string_string__L2.e, if_neg (by omega)], by rw [List.drop_eq_nil_of_le (by omega)]; rfl⟩
  | k + 1, i, h => by
    have hi : i < l.length := by omega
    obtain ⟨r, h1, h2⟩ := path_impl l hl k (i + 1) (by omega)
    rw [slices_IndexFunc___string_string__L2.e]
    simp (disch := omega) only [if_pos, impl_PathFault_1.e, impl_nf, Option.bind_some, Int.toNat_natCast, nth_at (t := .str) hi, wrap_succ]
    rw [List.drop_eq_getElem_cons hi]
    unfold okN
    rw [List.all_cons]
    by_cases hn : nf l[i] = 0
    · rw [if_neg (by simpa using hn), decide_eq_true hn, Bool.true_and]
      exact ⟨r, h1, h2⟩
    · rw [if_pos (by simpa using hn), decide_eq_false hn, Bool.false_and]
      exact ⟨_, rfl, by simp⟩
noncomputable def pf (s : ByteArray) : Int := if ((partsL s).length : Int) > 4 then 1 else if okN (partsL s) = true then 0 else 1
theorem spec_pf (s : ByteArray) (h : s.size ≤ 1048576) : spec_PathFault.s s = some (pf s) := by
  rw [spec_PathFault.e, spec_parts s h, Option.bind_some]
  have hl := partsL_len s
  unfold pf
  have := path_spec (partsL s) (by omega) (partsL s).length 0 (by omega)
  rw [show (0 : Int) = ((0 : Nat) : Int) from rfl, this, List.drop_zero]
  split <;> rfl
theorem impl_pf (s : ByteArray) (h : s.size ≤ 1048576) : impl_PathFault.s s = some (pf s) := by
  rw [impl_PathFault.e, impl_split s h, Option.bind_some]
  have hl := partsL_len s
  obtain ⟨r, h1, h2⟩ := path_impl (partsL s) (by omega) (partsL s).length 0 (by omega)
  have h1 : slices_IndexFunc___string_string__L2.s (partsL s) (partsL s).length (0 : Int) = some r := h1
  rw [slices_ContainsFunc___string_string_.e, slices_IndexFunc___string_string_.e, h1, Option.bind_some, Option.bind_some, h2, List.drop_zero]
  unfold pf
  cases okN (partsL s) <;> (simp only [Bool.not_true, Bool.not_false, if_true, Bool.false_eq_true, if_false]; split <;> rfl)
theorem pf_cases (s : ByteArray) : pf s = 0 ∨ pf s = 1 := by
  unfold pf
  split
  · exact .inr rfl
  · split
    · exact .inl rfl
    · exact .inr rfl
end Go.Proofs.YtmojilihllhadaaGreatDoor.Ev
