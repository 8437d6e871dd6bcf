/- The lines of a text: both ways to make them make the same. -/
import Derived.Test.YtmojilihllhadaaGreatDoorPfBase
set_option linter.unusedVariables false
set_option linter.unusedSimpArgs false
namespace Go.Proofs.YtmojilihllhadaaGreatDoor.Ev
open Go

/-- all pieces, each with its line feed; behind the last line feed one more -/
def pcs : List UInt8 → List UInt8 → List (List UInt8)
  | cur, [] => [cur]
  | cur, b :: r => match b == 10 with
    | true => (cur ++ [b]) :: pcs [] r
    | false => pcs (cur ++ [b]) r
/-- the lines -/
def lns : List UInt8 → List UInt8 → List (List UInt8)
  | [], [] => []
  | c :: cur, [] => [c :: cur]
  | cur, b :: r => match b == 10 with
    | true => (cur ++ [b]) :: lns [] r
    | false => lns (cur ++ [b]) r
def linesL (s : ByteArray) : List ByteArray := (lns [] s.data.toList).map ba

theorem lns_cons (cur : List UInt8) (b : UInt8) (r : List UInt8) : lns cur (b :: r) = match b == 10 with | true => (cur ++ [b]) :: lns [] r | false => lns (cur ++ [b]) r := by cases cur <;> rfl
theorem pcs_ne (cur l : List UInt8) : pcs cur l ≠ [] := by
  induction l generalizing cur with
  | nil => simp [pcs]
  | cons b r ih => simp only [pcs]; split <;> simp [ih]
theorem pcs_lns : ∀ (l cur : List UInt8), (pcs cur l).getLast? = some [] ∧ lns cur l = (pcs cur l).dropLast ∨ ∃ x, x ≠ [] ∧ (pcs cur l).getLast? = some x ∧ lns cur l = pcs cur l
  | [], [] => .inl ⟨rfl, rfl⟩
  | [], c :: cur => .inr ⟨c :: cur, by simp, rfl, rfl⟩
  | b :: r, cur => by
    rw [lns_cons]
    simp only [pcs]
    cases hb : (b == 10) with
    | true =>
      obtain ⟨y, ys, hy⟩ : ∃ y ys, pcs [] r = y :: ys := by
        cases h : pcs [] r with
        | nil => exact absurd h (pcs_ne _ _)
        | cons y ys => exact ⟨y, ys, rfl⟩
      rcases pcs_lns r [] with ⟨h1, h2⟩ | ⟨x, h0, h1, h2⟩
      · refine .inl ⟨?_, ?_⟩
        · simp only []; rw [hy] at h1 ⊢; simpa using h1
        · simp only []; rw [h2, hy]; rfl
      · refine .inr ⟨x, h0, ?_, ?_⟩
        · simp only []; rw [hy] at h1 ⊢; simpa using h1
        · simp only []; rw [h2]
    | false => exact pcs_lns r (cur ++ [b])
theorem pcs_len : ∀ (l cur : List UInt8), (pcs cur l).length = l.count 10 + 1
  | [], _ => rfl
  | b :: r, cur => by
    simp only [pcs]
    cases hb : (b == 10) with
    | true => simp only [List.length_cons, pcs_len r]; rw [List.count_cons, hb]; simp
    | false => simp only [pcs_len r]; rw [List.count_cons, hb]; simp

theorem idx_spec : ∀ (l : List UInt8), (Go.Lib.indexByte l 10 = -1 ∧ l.count 10 = 0 ∧ ∀ cur, pcs cur l = [cur ++ l]) ∨
    ∃ k : Nat, Go.Lib.indexByte l 10 = (k : Int) ∧ k < l.length ∧ (∀ cur, pcs cur l = (cur ++ l.take (k + 1)) :: pcs [] (l.drop (k + 1))) ∧ l.count 10 = (l.drop (k + 1)).count 10 + 1
  | [] => .inl ⟨rfl, rfl, fun cur => by simp [pcs]⟩
  | b :: r => by
    cases hb : (b == 10) with
    | true =>
      refine .inr ⟨0, by simp [Go.Lib.indexByte, hb], by simp, fun cur => by simp [pcs, hb], ?_⟩
      rw [List.count_cons, hb]; simp
    | false =>
      rcases idx_spec r with ⟨h1, h2, h3⟩ | ⟨k, h1, h2, h3, h4⟩
      · refine .inl ⟨by simp [Go.Lib.indexByte, hb, h1], by rw [List.count_cons, hb, h2]; rfl, fun cur => by simp [pcs, hb, h3]⟩
      · refine .inr ⟨k + 1, ?_, by simpa using h2, fun cur => by simp [pcs, hb, h3], ?_⟩
        · have hne : ((k : Int) == -1) = false := by rw [beq_eq_false_iff_ne]; omega
          simp only [Go.Lib.indexByte, hb, h1, hne, Bool.false_eq_true, if_false]; omega
        · rw [List.count_cons, hb, h4]; simp

/-! #### the specification's way -/
theorem spec_split_L4 (D : List UInt8) (hD : D.length ≤ 1048576) : ∀ (k from_ i : Nat) (m : List ByteArray), i + k = D.length → from_ ≤ i → m.length ≤ i →
    Says (fun n => spec_l1Split_L4 n (ba D) m.length (from_ : Int) (i : Int) m) (m ++ (lns ((D.drop from_).take (i - from_)) (D.drop i)).map ba)
  | 0, from_, i, m, hk, hf, hm => by
    refine Says.step (fun n => spec_l1Split_L4_eq n (ba D) m.length from_ i m) (Says.neg (by rw [ba_size]; omega) ?_)
    rw [List.drop_eq_nil_of_le (by omega : D.length ≤ i)]
    by_cases h : from_ < D.length
    · refine Says.pos (by rw [ba_size]; omega) (Says.pos (by rw [ba_size]; omega) (Says.pos (by simp [fillElems]; omega) ?_))
      rw [Int.toNat_natCast, ba_extract, ba_size]
      have hi : i = D.length := by omega
      subst hi
      obtain ⟨c, cs, hc⟩ : ∃ c cs, (D.drop from_).take (D.length - from_) = c :: cs := by
        cases h' : (D.drop from_).take (D.length - from_) with
        | nil => have := congrArg List.length h'; simp at this; omega
        | cons c cs => exact ⟨c, cs, rfl⟩
      rw [hc]
      exact .now _
    · refine Says.neg (by rw [ba_size]; omega) ?_
      rw [show i - from_ = 0 by omega, List.take_zero]
      simp only [lns, List.map_nil, List.append_nil]
      exact .now _
  | k + 1, from_, i, m, hk, hf, hm => by
    have hi : i < D.length := by omega
    have hcur : (D.drop from_).take (i + 1 - from_) = (D.drop from_).take (i - from_) ++ [D[i]] := by
      rw [show i + 1 - from_ = (i - from_) + 1 by omega, List.take_succ_eq_append_getElem (by simp; omega)]
      simp only [List.getElem_drop]
      congr 3
      omega
    rw [List.drop_eq_getElem_cons hi, lns_cons, ← hcur]
    have hb : (byteAt (ba D) (i : Int).toNat == (10 : Int)) = (D[i] == 10) := by rw [Int.toNat_natCast, ba_byte hi]; exact byte_eq D[i] 10
    have hw : IntKind.i64.wrap ((i : Int) + 1) = ((i + 1 : Nat) : Int) := wrap_succ (by omega)
    refine Says.step (fun n => spec_l1Split_L4_eq n (ba D) m.length from_ i m) (Says.pos (by rw [ba_size]; omega) (Says.pos (by rw [ba_size]; omega) ?_))
    cases hc : (D[i] == 10) with
    | true =>
      refine Says.condT (by rw [hb]; exact hc) (Says.pos (by rw [hw, ba_size]; omega) (Says.pos (by rw [hw]; omega) (Says.pos (by simp [fillElems]; omega) ?_)))
      rw [hw, Int.toNat_natCast, Int.toNat_natCast, ba_extract]
      have := spec_split_L4 D hD k (i + 1) (i + 1) (m ++ [ba ((D.drop from_).take (i + 1 - from_))]) (by omega) (by omega) (by simp; omega)
      simp only [Nat.sub_self, List.take_zero] at this
      simpa [fillElems] using this
    | false =>
      refine Says.condF (by rw [hb]; exact hc) ?_
      rw [hw]
      exact spec_split_L4 D hD k from_ (i + 1) m (by omega) (by omega) (by omega)

theorem says_spec_split (s : ByteArray) (h : s.size ≤ 1048576) : Says (fun n => spec_l1Split n s) (linesL s) := by
  refine Says.step (fun n => spec_l1Split_eq n s) ?_
  have := spec_split_L4 s.data.toList (by rw [← Go.Lib.size_eq]; exact h) s.data.toList.length 0 0 [] (by omega) (by omega) (by simp)
  rw [ba_self] at this
  simpa [linesL] using this

/-! #### the program's way -/
def nl : ByteArray := ByteArray.mk #[10]
theorem nl_toList : nl.toList = [10] := ba_toList [10]
theorem index_nl (l : List UInt8) : Says (fun n => strings_Index n (ba l) nl) (Go.Lib.indexByte l 10) := by
  refine Says.step (fun n => strings_Index_eq n (ba l) nl) (Says.bind (a := Go.Lib.indexByte l 10) ?_ (.now _))
  refine Says.step (fun n => stringslite_Index_eq n (ba l) nl) (Says.condT (by decide) (Says.casesB (fun h => ?_) (fun h => Says.condT (by decide) (Says.pos (by decide) (Says.bind (Says.step (fun n => stringslite_IndexByte_eq n (ba l) _) (.now _)) (.now _))))))
  have hl : l = [10] := by
    have h := eq_of_beq h
    rw [ba_toList] at h
    rw [← h]; exact nl_toList
  subst hl
  exact .now _
theorem count_nl (l : List UInt8) : Says (fun n => strings_Count n (ba l) nl) ((l.count 10 : Nat) : Int) :=
  Says.step (fun n => strings_Count_eq n (ba l) nl) (Says.condF (by decide) (Says.condT (by decide) (Says.pos (by decide) (.now _))))

theorem split_L11 : ∀ (c i : Nat) (r : List UInt8) (a : List ByteArray), i + r.length ≤ 1048576 → r.count 10 = c → a.length = i + c + 1 →
    Says (fun n => strings_genSplit_L11 n (ba r) nl 1 ((i + c : Nat) : Int) (i + c + 1) (i : Int) a) (a.take i ++ (pcs [] r).map ba)
  | 0, i, r, a, hr, hc, ha => by
    rcases idx_spec r with ⟨_, _, h3⟩ | ⟨k, _, _, _, h4⟩
    · refine Says.step (fun n => strings_genSplit_L11_eq n (ba r) nl 1 _ (i + 0 + 1) i a) (Says.neg (by omega) (Says.pos (by omega) (Says.pos (by rw [wrap_succ (by omega)]; omega) ?_)))
      rw [wrap_succ (by omega), Int.toNat_natCast, Int.toNat_natCast, List.drop_zero, Nat.sub_zero, take_set (by omega), h3]
      exact .now _
    · omega
  | c + 1, i, r, a, hr, hc, ha => by
    rcases idx_spec r with ⟨_, h2, _⟩ | ⟨k, h1, h2, h3, h4⟩
    · omega
    · have hw : IntKind.i64.wrap ((k : Int) + 1) = ((k + 1 : Nat) : Int) := wrap_succ (by omega)
      have hns : (nl.size : Int) = 1 := rfl
      refine Says.step (fun n => strings_genSplit_L11_eq n (ba r) nl 1 _ (i + (c + 1) + 1) i a) (Says.pos (by omega) (Says.bind (index_nl r) ?_))
      simp only [h1, hns, hw]
      refine Says.neg (by omega) (Says.pos (by rw [ba_size]; omega) (Says.pos (by omega) (Says.pos (by rw [ba_size]; omega) ?_)))
      rw [wrap_succ (by omega), Int.toNat_natCast, Int.toNat_natCast, ba_extract, ba_extract, ba_size]
      have hd : (r.drop (k + 1)).take (r.length - (k + 1)) = r.drop (k + 1) := List.take_of_length_le (by simp)
      rw [hd, List.drop_zero, Nat.sub_zero]
      have := split_L11 c (i + 1) (r.drop (k + 1)) (a.set i (ba (r.take (k + 1)))) (by simp; omega) (by omega) (by simp; omega)
      rw [take_set (by omega)] at this
      rw [h3, List.nil_append, List.map_cons]
      rw [show i + 1 + c = i + (c + 1) by omega] at this
      simpa using this

theorem says_splitAfter (s : ByteArray) (h : s.size ≤ 1048575) : Says (fun n => strings_SplitAfter n s nl) ((pcs [] s.data.toList).map ba) := by
  refine Says.step (fun n => strings_SplitAfter_eq n s nl) (Says.bind (a := (pcs [] s.data.toList).map ba) ?_ (.now _))
  have hcl : s.data.toList.count 10 ≤ s.data.toList.length := List.count_le_length
  have hsz : s.size = s.data.toList.length := Go.Lib.size_eq s
  generalize hD : s.data.toList = D at hcl hsz
  have hs : s = ba D := by rw [← hD, ba_self]
  subst hs
  refine Says.step (fun n => strings_genSplit_eq n (ba D) nl 1 (-1)) (Says.condF (by decide) (Says.condF (by rw [nl_toList, noS_toList]; rfl) (Says.pos (by decide) (Says.bind (count_nl D) ?_))))
  have hw1 : IntKind.i64.wrap (((ba D).size : Int) + 1) = ((D.length + 1 : Nat) : Int) := by rw [ba_size]; exact wrap_succ (by omega)
  have hw2 : IntKind.i64.wrap (((D.count 10 : Nat) : Int) + 1) = ((D.count 10 + 1 : Nat) : Int) := wrap_succ (by omega)
  have hif : (if ((D.length + 1 : Nat) : Int) < ((D.count 10 + 1 : Nat) : Int) then ((D.length + 1 : Nat) : Int) else ((D.count 10 + 1 : Nat) : Int)) = ((D.count 10 + 1 : Nat) : Int) := if_neg (by omega)
  simp only [hw1, hw2, hif]
  refine Says.pos (by omega) ?_
  have hw3 : IntKind.i64.wrap (((D.count 10 + 1 : Nat) : Int) - 1) = ((0 + D.count 10 : Nat) : Int) := by rw [wrap_pred (by omega) (by omega)]; congr 1; omega
  rw [hw3, Int.toNat_natCast, List.length_replicate]
  have := split_L11 (D.count 10) 0 D (List.replicate (D.count 10 + 1) noS) (by omega) rfl (by simp)
  simp only [List.take_zero, List.nil_append] at this
  rw [show 0 + D.count 10 + 1 = D.count 10 + 1 by omega] at this
  exact this

theorem says_linesOf (s : ByteArray) (h : s.size ≤ 1048575) : Says (fun n => impl_linesOf n s) (linesL s) := by
  refine Says.step (fun n => impl_linesOf_eq n s) (Says.bind (says_splitAfter s h) ?_)
  have hcl : s.data.toList.count 10 ≤ s.data.toList.length := List.count_le_length
  have hsz : s.size = s.data.toList.length := Go.Lib.size_eq s
  generalize hD : s.data.toList = D at hcl hsz
  have hlen : ((pcs [] D).map ba).length = D.count 10 + 1 := by rw [List.length_map, pcs_len]
  have hw : IntKind.i64.wrap ((((pcs [] D).map ba).length : Int) - 1) = ((D.count 10 : Nat) : Int) := by rw [hlen, wrap_pred (by omega) (by omega)]; congr 1
  rw [hw]
  refine Says.pos (by rw [hlen]; omega) ?_
  have hlast : nth .str ((pcs [] D).map ba) ((D.count 10 : Nat) : Int).toNat = ba ((pcs [] D).getLastD []) := by
    rw [Int.toNat_natCast]
    have hlt : D.count 10 < ((pcs [] D).map ba).length := by rw [hlen]; omega
    rw [nth_at (t := .str) hlt]
    simp only [List.getElem_map]
    congr 1
    have hl' : (pcs [] D).getLast? = some ((pcs [] D)[D.count 10]'(by rw [pcs_len]; omega)) := by
      rw [List.getLast?_eq_getElem?]
      have : (pcs [] D).length - 1 = D.count 10 := by rw [pcs_len]; rfl
      rw [this]
      exact List.getElem?_eq_getElem _
    rw [List.getLastD_eq_getLast?, hl']
    rfl
  rw [hlast, ba_toList]
  have hll : linesL s = (lns [] D).map ba := by rw [← hD]; rfl
  rw [hll]
  rcases pcs_lns D [] with ⟨h1, h2⟩ | ⟨x, h0, h1, h2⟩
  · refine Says.condT (by rw [List.getLastD_eq_getLast?, h1, noS_toList]; rfl) (Says.pos (by rw [hlen]; omega) ?_)
    rw [h2, Int.toNat_natCast, List.drop_zero]
    have : ((pcs [] D).map ba).take (D.count 10) = (pcs [] D).dropLast.map ba := by
      rw [List.dropLast_eq_take, pcs_len, List.map_take]; rfl
    rw [this]
    exact .now _
  · refine Says.condF (by
      rw [List.getLastD_eq_getLast?, h1, noS_toList]
      cases x with
      | nil => exact absurd rfl h0
      | cons a b => rfl) ?_
    rw [h2]
    exact .now _
end Go.Proofs.YtmojilihllhadaaGreatDoor.Ev
