/- PfBase, PfOrd, PfDig0, PfLines, PfTf, PfCodeIf, PfMatch, PfChunk, PfChunk2. -/
import Derived.Test.YtmojilihllhadaaGreatDoorBoA
import Derived.Lib.Strings
set_option linter.unusedVariables false
set_option linter.unusedSimpArgs false
namespace Go.Proofs.YtmojilihllhadaaGreatDoor.Ev
open Go
theorem wrap_succ {i : Nat} (h : i < 4611686018427387904) : IntKind.i64.wrap ((i : Int) + 1) = ((i + 1 : Nat) : Int) := by rw [wrap_id (by omega) (by omega)]; omega
theorem wrap_pred {i : Nat} (h1 : 1 ≤ i) (h : i < 4611686018427387904) : IntKind.i64.wrap ((i : Int) - 1) = ((i - 1 : Nat) : Int) := by rw [wrap_id (by omega) (by omega)]; omega
theorem wrap_nat {i : Nat} (h : i < 4611686018427387904) : IntKind.i64.wrap (i : Int) = (i : Int) := wrap_id (by omega) (by omega)
def ba (l : List UInt8) : ByteArray := ⟨l.toArray⟩
theorem ba_self (s : ByteArray) : ba s.data.toList = s := Go.Lib.mk_data s
theorem ba_size (l : List UInt8) : (ba l).size = l.length := Go.Lib.size_eq _
theorem ba_extract (l : List UInt8) (a b : Nat) : (ba l).extract a b = ba ((l.drop a).take (b - a)) := Go.Lib.extract_eq _ a b
theorem ba_byte {l : List UInt8} {i : Nat} (h : i < l.length) : byteAt (ba l) i = ((l[i]'h).toNat : Int) := by
  simp [byteAt, ba, List.getD, h]
theorem byte_eq (b c : UInt8) : (((b.toNat : Int) == (c.toNat : Int)) = (b == c)) := by
  rw [Bool.eq_iff_iff]
  simp only [beq_iff_eq]
  constructor
  · intro h; exact UInt8.toNat_inj.1 (by omega)
  · rintro rfl; rfl
theorem ba_toList (l : List UInt8) : (ba l).toList = l := Go.Lib.toList_data _
theorem noS_toList : noS.toList = [] := ba_toList []
theorem take_set {β : Type} {a : List β} {i : Nat} (h : i < a.length) (x : β) : (a.set i x).take (i + 1) = a.take i ++ [x] := by
  rw [List.take_succ_eq_append_getElem (by simpa using h)]
  simp [List.take_set_of_le]
theorem fill1 {β : Type} (x z : β) : fillElems [((0 : Nat), x)] (List.replicate (1 : Nat) z) = [x] := rfl
def cmp (a b : ByteArray) : Int := Go.Lib.compareBytes a.data.toList b.data.toList
theorem cb_trans : ∀ (a b c : List UInt8), Go.Lib.compareBytes a b < 0 → Go.Lib.compareBytes b c < 0 → Go.Lib.compareBytes a c < 0
  | [], _, [], h1, h2 => by cases ‹List UInt8› <;> simp [Go.Lib.compareBytes] at h1 h2
  | [], _, _ :: _, _, _ => by simp [Go.Lib.compareBytes]
  | _ :: _, [], _, h1, _ => by simp [Go.Lib.compareBytes] at h1
  | _ :: _, _ :: _, [], _, h2 => by simp [Go.Lib.compareBytes] at h2
  | x :: a, y :: b, z :: c, h1, h2 => by
    unfold Go.Lib.compareBytes at h1 h2 ⊢
    simp only [UInt8.lt_iff_toNat_lt] at h1 h2 ⊢
    split at h1
    · split at h2
      · rw [if_pos (by omega)]; omega
      · split at h2
        · omega
        · rw [if_pos (by omega)]; omega
    · split at h1
      · omega
      · split at h2
        · rw [if_pos (by omega)]; omega
        · split at h2
          · omega
          · rw [if_neg (by omega), if_neg (by omega)]
            exact cb_trans a b c h1 h2
theorem cb_self : ∀ (a : List UInt8), Go.Lib.compareBytes a a = 0
  | [] => rfl
  | x :: a => by
    unfold Go.Lib.compareBytes
    rw [if_neg (UInt8.lt_irrefl x), if_neg (UInt8.lt_irrefl x)]; exact cb_self a
theorem cb_zero : ∀ (a b : List UInt8), Go.Lib.compareBytes a b = 0 → a = b
  | [], [], _ => rfl
  | [], _ :: _, h => by simp [Go.Lib.compareBytes] at h
  | _ :: _, [], h => by simp [Go.Lib.compareBytes] at h
  | x :: a, y :: b, h => by
    unfold Go.Lib.compareBytes at h
    split at h
    · omega
    · split at h
      · omega
      · rename_i h1 h2
        have : x = y := by
          simp only [UInt8.lt_iff_toNat_lt] at h1 h2
          exact UInt8.toNat_inj.1 (by omega)
        rw [this, cb_zero a b h]
theorem cb_less : ∀ (a b : List UInt8), Op.bytesLess a b = decide (Go.Lib.compareBytes a b < 0)
  | [], [] => rfl
  | [], _ :: _ => by simp [Op.bytesLess, Go.Lib.compareBytes]
  | _ :: _, [] => by simp [Op.bytesLess, Go.Lib.compareBytes]
  | x :: a, y :: b => by
    have ih := cb_less a b
    unfold Op.bytesLess Go.Lib.compareBytes
    by_cases h : x < y
    · simp [h]
    · by_cases h2 : y < x
      · have hne : x ≠ y := by rintro rfl; exact UInt8.lt_irrefl x h2
        simp [h, h2, hne]
      · have : x = y := by
          simp only [UInt8.lt_iff_toNat_lt] at h h2
          exact UInt8.toNat_inj.1 (by omega)
        subst this
        simp [h, ih]
theorem cb_flip : ∀ (a b : List UInt8), ¬ Go.Lib.compareBytes a b < 0 → a ≠ b → Go.Lib.compareBytes b a < 0
  | [], [], _, h => absurd rfl h
  | [], _ :: _, h, _ => by simp [Go.Lib.compareBytes] at h
  | _ :: _, [], _, _ => by simp [Go.Lib.compareBytes]
  | x :: a, y :: b, h, hne => by
    unfold Go.Lib.compareBytes at h ⊢
    simp only [UInt8.lt_iff_toNat_lt] at h ⊢
    split at h
    · omega
    · split at h
      · rw [if_pos (by omega)]; omega
      · rw [if_neg (by omega), if_neg (by omega)]
        refine cb_flip a b h ?_
        rintro rfl
        have : x = y := UInt8.toNat_inj.1 (by omega)
        subst this
        exact hne rfl
theorem cmp_eq {a b : ByteArray} (h : cmp a b = 0) : a = b := by
  have := cb_zero _ _ h
  rw [← ba_self a, ← ba_self b, this]
theorem cmp_self (a : ByteArray) : cmp a a = 0 := cb_self _
theorem blt_iff (a b : ByteArray) : BLt a b ↔ cmp a b < 0 := by unfold BLt cmp; rw [cb_less, decide_eq_true_iff]
theorem cmp_flip {a b : ByteArray} (h : ¬ cmp a b < 0) (hne : a ≠ b) : cmp b a < 0 := cb_flip _ _ h fun e => hne (ba_ext e)
theorem cmp_trans {a b c : ByteArray} (h : cmp a b < 0) (k : cmp b c < 0) : cmp a c < 0 := cb_trans _ _ _ h k
theorem not_le {a b : ByteArray} (h : ¬ (BLt a b ∨ a = b)) : cmp b a < 0 := by
  rw [not_or, blt_iff] at h
  exact cmp_flip h.1 h.2
theorem ba_append (a b : List UInt8) : ba a ++ ba b = ba (a ++ b) := by apply ba_ext; simp [ba]
theorem strBytes_ba (T : List UInt8) : strBytes (ba T) = T.map fun b => (b.toNat : Int) := by unfold strBytes; rw [ba_toList]
theorem strBytes_app (T U : List UInt8) : strBytes (ba T) ++ strBytes (ba U) = strBytes (ba (T ++ U)) := by simp [strBytes_ba]
theorem strBytes_length (T : List UInt8) : (strBytes (ba T)).length = T.length := by simp [strBytes_ba]
theorem bytesStr_back (T : List UInt8) : bytesStr (strBytes (ba T)) = ba T := by
  unfold bytesStr
  rw [strBytes_ba, List.map_map]
  congr 2
  conv => rhs; rw [← List.map_id T]
  refine List.map_congr_left fun b _ => ?_
  simp
def pcs : List UInt8 → List UInt8 → List (List UInt8)
  | cur, [] => [cur]
  | cur, b :: r => match b == 10 with
    | true => (cur ++ [b]) :: pcs [] r
    | false => pcs (cur ++ [b]) r
def lns : List UInt8 → List UInt8 → List (List UInt8)
  | [], [] => []
  | c :: cur, [] => [c :: cur]
  | cur, b :: r => match b == 10 with
    | true => (cur ++ [b]) :: lns [] r
    | false => lns (cur ++ [b]) r
def linesL (s : ByteArray) : List ByteArray := (lns [] s.data.toList).map ba
theorem lns_cons (cur : List UInt8) (b : UInt8) (r : List UInt8) : lns cur (b :: r) = match b == 10 with | true => (cur ++ [b]) :: lns [] r | false => lns (cur ++ [b]) r := by cases cur <;> rfl
theorem pcs_ne (cur l : List UInt8) : pcs cur l ≠ [] := by
  induction l generalizing cur with
  | nil => simp [pcs]
  | cons b r ih => simp only [pcs]; split <;> simp [ih]
theorem pcs_lns : ∀ (l cur : List UInt8), (pcs cur l).getLast? = some [] ∧ lns cur l = (pcs cur l).dropLast ∨ ∃ x, x ≠ [] ∧ (pcs cur l).getLast? = some x ∧ lns cur l = pcs cur l
  | [], [] => .inl ⟨rfl, rfl⟩
  | [], c :: cur => .inr ⟨c :: cur, by simp, rfl, rfl⟩
  | b :: r, cur => by
    rw [lns_cons]
    simp only [pcs]
    cases hb : (b == 10) with
    | true =>
      obtain ⟨y, ys, hy⟩ : ∃ y ys, pcs [] r = y :: ys := by
        cases h : pcs [] r with
        | nil => exact absurd h (pcs_ne _ _)
        | cons y ys => exact ⟨y, ys, rfl⟩
      rcases pcs_lns r [] with ⟨h1, h2⟩ | ⟨x, h0, h1, h2⟩
      · refine .inl ⟨?_, ?_⟩
        · simp only []; rw [hy] at h1 ⊢; simpa using h1
        · simp only []; rw [h2, hy]; rfl
      · refine .inr ⟨x, h0, ?_, ?_⟩
        · simp only []; rw [hy] at h1 ⊢; simpa using h1
        · simp only []; rw [h2]
    | false => exact pcs_lns r (cur ++ [b])
theorem pcs_len : ∀ (l cur : List UInt8), (pcs cur l).length = l.count 10 + 1
  | [], _ => rfl
  | b :: r, cur => by
    simp only [pcs]
    cases hb : (b == 10) with
    | true => simp only [List.length_cons, pcs_len r]; rw [List.count_cons, hb]; simp
    | false => simp only [pcs_len r]; rw [List.count_cons, hb]; simp
theorem idx_spec : ∀ (l : List UInt8), (Go.Lib.indexByte l 10 = -1 ∧ l.count 10 = 0 ∧ ∀ cur, pcs cur l = [cur ++ l]) ∨
    ∃ k : Nat, Go.Lib.indexByte l 10 = (k : Int) ∧ k < l.length ∧ (∀ cur, pcs cur l = (cur ++ l.take (k + 1)) :: pcs [] (l.drop (k + 1))) ∧ l.count 10 = (l.drop (k + 1)).count 10 + 1
  | [] => .inl ⟨rfl, rfl, fun cur => by simp [pcs]⟩
  | b :: r => by
    cases hb : (b == 10) with
    | true =>
      refine .inr ⟨0, by simp [Go.Lib.indexByte, hb], by simp, fun cur => by simp [pcs, hb], ?_⟩
      rw [List.count_cons, hb]; simp
    | false =>
      rcases idx_spec r with ⟨h1, h2, h3⟩ | ⟨k, h1, h2, h3, h4⟩
      · refine .inl ⟨by simp [Go.Lib.indexByte, hb, h1], by rw [List.count_cons, hb, h2]; rfl, fun cur => by simp [pcs, hb, h3]⟩
      · refine .inr ⟨k + 1, ?_, by simpa using h2, fun cur => by simp [pcs, hb, h3], ?_⟩
        · have hne : ((k : Int) == -1) = false := by rw [beq_eq_false_iff_ne]; omega
          simp only [Go.Lib.indexByte, hb, h1, hne, Bool.false_eq_true, if_false]; omega
        · rw [List.count_cons, hb, h4]; simp
/-! #### the specification's way -/
theorem spec_split_L4 (D : List UInt8) (hD : D.length ≤ 1048576) : ∀ (k from_ i : Nat) (m : List ByteArray), i + k = D.length → from_ ≤ i → m.length ≤ i →
    Says (fun n => spec_l1Split_L4 n (ba D) m.length (from_ : Int) (i : Int) m) (m ++ (lns ((D.drop from_).take (i - from_)) (D.drop i)).map ba)
  | 0, from_, i, m, hk, hf, hm => by
    refine Says.step (fun n => spec_l1Split_L4_eq n (ba D) m.length from_ i m) (Says.neg (by rw [ba_size]; omega) ?_)
    rw [List.drop_eq_nil_of_le (by omega : D.length ≤ i)]
    by_cases h : from_ < D.length
    · refine Says.pos (by rw [ba_size]; omega) (Says.pos (by rw [ba_size]; omega) (Says.pos (by simp [fillElems]; omega) ?_))
      rw [Int.toNat_natCast, ba_extract, ba_size]
      have hi : i = D.length := by omega
      subst hi
      obtain ⟨c, cs, hc⟩ : ∃ c cs, (D.drop from_).take (D.length - from_) = c :: cs := by
        cases h' : (D.drop from_).take (D.length - from_) with
        | nil => have := congrArg List.length h'; simp at this; omega
        | cons c cs => exact ⟨c, cs, rfl⟩
      rw [hc]
      exact .now _
    · refine Says.neg (by rw [ba_size]; omega) ?_
      rw [show i - from_ = 0 by omega, List.take_zero]
      simp only [lns, List.map_nil, List.append_nil]
      exact .now _
  | k + 1, from_, i, m, hk, hf, hm => by
    have hi : i < D.length := by omega
    have hcur : (D.drop from_).take (i + 1 - from_) = (D.drop from_).take (i - from_) ++ [D[i]] := by
      rw [show i + 1 - from_ = (i - from_) + 1 by omega, List.take_succ_eq_append_getElem (by simp; omega)]
      simp only [List.getElem_drop]
      congr 3
      omega
    rw [List.drop_eq_getElem_cons hi, lns_cons, ← hcur]
    have hb : (byteAt (ba D) (i : Int).toNat == (10 : Int)) = (D[i] == 10) := by rw [Int.toNat_natCast, ba_byte hi]; exact byte_eq D[i] 10
    have hw : IntKind.i64.wrap ((i : Int) + 1) = ((i + 1 : Nat) : Int) := wrap_succ (by omega)
    refine Says.step (fun n => spec_l1Split_L4_eq n (ba D) m.length from_ i m) (Says.pos (by rw [ba_size]; omega) (Says.pos (by rw [ba_size]; omega) ?_))
    cases hc : (D[i] == 10) with
    | true =>
      refine Says.condT (by rw [hb]; exact hc) (Says.pos (by rw [hw, ba_size]; omega) (Says.pos (by rw [hw]; omega) (Says.pos (by simp [fillElems]; omega) ?_)))
      rw [hw, Int.toNat_natCast, Int.toNat_natCast, ba_extract]
      have := spec_split_L4 D hD k (i + 1) (i + 1) (m ++ [ba ((D.drop from_).take (i + 1 - from_))]) (by omega) (by omega) (by simp; omega)
      simp only [Nat.sub_self, List.take_zero] at this
      simpa [fillElems] using this
    | false =>
      refine Says.condF (by rw [hb]; exact hc) ?_
      rw [hw]
      exact spec_split_L4 D hD k from_ (i + 1) m (by omega) (by omega) (by omega)
theorem says_spec_split (s : ByteArray) (h : s.size ≤ 1048576) : Says (fun n => spec_l1Split n s) (linesL s) := by
  refine Says.step (fun n => spec_l1Split_eq n s) ?_
  have := spec_split_L4 s.data.toList (by rw [← Go.Lib.size_eq]; exact h) s.data.toList.length 0 0 [] (by omega) (by omega) (by simp)
  rw [ba_self] at this
  simpa [linesL] using this
/-! #### the program's way -/
def nl : ByteArray := ByteArray.mk #[10]
theorem nl_toList : nl.toList = [10] := ba_toList [10]
theorem index_nl (l : List UInt8) : Says (fun n => strings_Index n (ba l) nl) (Go.Lib.indexByte l 10) := by
  refine Says.step (fun n => strings_Index_eq n (ba l) nl) (Says.bind (a := Go.Lib.indexByte l 10) ?_ (.now _))
  refine Says.step (fun n => stringslite_Index_eq n (ba l) nl) (Says.condT (by decide) (Says.casesB (fun h => ?_) (fun h => Says.condT (by decide) (Says.pos (by decide) (Says.bind (Says.step (fun n => stringslite_IndexByte_eq n (ba l) _) (.now _)) (.now _))))))
  have hl : l = [10] := by
    have h := eq_of_beq h
    rw [ba_toList] at h
    rw [← h]; exact nl_toList
  subst hl
  exact .now _
theorem count_nl (l : List UInt8) : Says (fun n => strings_Count n (ba l) nl) ((l.count 10 : Nat) : Int) :=
  Says.step (fun n => strings_Count_eq n (ba l) nl) (Says.condF (by decide) (Says.condT (by decide) (Says.pos (by decide) (.now _))))
theorem split_L11 : ∀ (c i : Nat) (r : List UInt8) (a : List ByteArray), i + r.length ≤ 1048576 → r.count 10 = c → a.length = i + c + 1 →
    Says (fun n => strings_genSplit_L11 n (ba r) nl 1 ((i + c : Nat) : Int) (i + c + 1) (i : Int) a) (a.take i ++ (pcs [] r).map ba)
  | 0, i, r, a, hr, hc, ha => by
    rcases idx_spec r with ⟨_, _, h3⟩ | ⟨k, _, _, _, h4⟩
    · refine Says.step (fun n => strings_genSplit_L11_eq n (ba r) nl 1 _ (i + 0 + 1) i a) (Says.neg (by omega) (Says.pos (by omega) (Says.pos (by rw [wrap_succ (by omega)]; omega) ?_)))
      rw [wrap_succ (by omega), Int.toNat_natCast, Int.toNat_natCast, List.drop_zero, Nat.sub_zero, take_set (by omega), h3]
      exact .now _
    · omega
  | c + 1, i, r, a, hr, hc, ha => by
    rcases idx_spec r with ⟨_, h2, _⟩ | ⟨k, h1, h2, h3, h4⟩
    · omega
    · have hw : IntKind.i64.wrap ((k : Int) + 1) = ((k + 1 : Nat) : Int) := wrap_succ (by omega)
      have hns : (nl.size : Int) = 1 := rfl
      refine Says.step (fun n => strings_genSplit_L11_eq n (ba r) nl 1 _ (i + (c + 1) + 1) i a) (Says.pos (by omega) (Says.bind (index_nl r) ?_))
      simp only [h1, hns, hw]
      refine Says.neg (by omega) (Says.pos (by rw [ba_size]; omega) (Says.pos (by omega) (Says.pos (by rw [ba_size]; omega) ?_)))
      rw [wrap_succ (by omega), Int.toNat_natCast, Int.toNat_natCast, ba_extract, ba_extract, ba_size]
      have hd : (r.drop (k + 1)).take (r.length - (k + 1)) = r.drop (k + 1) := List.take_of_length_le (by simp)
      rw [hd, List.drop_zero, Nat.sub_zero]
      have := split_L11 c (i + 1) (r.drop (k + 1)) (a.set i (ba (r.take (k + 1)))) (by simp; omega) (by omega) (by simp; omega)
      rw [take_set (by omega)] at this
      rw [h3, List.nil_append, List.map_cons]
      rw [show i + 1 + c = i + (c + 1) by omega] at this
      simpa using this
theorem says_splitAfter (s : ByteArray) (h : s.size ≤ 1048575) : Says (fun n => strings_SplitAfter n s nl) ((pcs [] s.data.toList).map ba) := by
  refine Says.step (fun n => strings_SplitAfter_eq n s nl) (Says.bind (a := (pcs [] s.data.toList).map ba) ?_ (.now _))
  have hcl : s.data.toList.count 10 ≤ s.data.toList.length := List.count_le_length
  have hsz : s.size = s.data.toList.length := Go.Lib.size_eq s
  generalize hD : s.data.toList = D at hcl hsz
  have hs : s = ba D := by rw [← hD, ba_self]
  subst hs
  refine Says.step (fun n => strings_genSplit_eq n (ba D) nl 1 (-1)) (Says.condF (by decide) (Says.condF (by rw [nl_toList, noS_toList]; rfl) (Says.pos (by decide) (Says.bind (count_nl D) ?_))))
  have hw1 : IntKind.i64.wrap (((ba D).size : Int) + 1) = ((D.length + 1 : Nat) : Int) := by rw [ba_size]; exact wrap_succ (by omega)
  have hw2 : IntKind.i64.wrap (((D.count 10 : Nat) : Int) + 1) = ((D.count 10 + 1 : Nat) : Int) := wrap_succ (by omega)
  have hif : (if ((D.length + 1 : Nat) : Int) < ((D.count 10 + 1 : Nat) : Int) then ((D.length + 1 : Nat) : Int) else ((D.count 10 + 1 : Nat) : Int)) = ((D.count 10 + 1 : Nat) : Int) := if_neg (by omega)
  simp only [hw1, hw2, hif]
  refine Says.pos (by omega) ?_
  have hw3 : IntKind.i64.wrap (((D.count 10 + 1 : Nat) : Int) - 1) = ((0 + D.count 10 : Nat) : Int) := by rw [wrap_pred (by omega) (by omega)]; congr 1; omega
  rw [hw3, Int.toNat_natCast, List.length_replicate]
  have := split_L11 (D.count 10) 0 D (List.replicate (D.count 10 + 1) noS) (by omega) rfl (by simp)
  simp only [List.take_zero, List.nil_append] at this
  rw [show 0 + D.count 10 + 1 = D.count 10 + 1 by omega] at this
  exact this
theorem says_linesOf (s : ByteArray) (h : s.size ≤ 1048575) : Says (fun n => impl_linesOf n s) (linesL s) := by
  refine Says.step (fun n => impl_linesOf_eq n s) (Says.bind (says_splitAfter s h) ?_)
  have hcl : s.data.toList.count 10 ≤ s.data.toList.length := List.count_le_length
  have hsz : s.size = s.data.toList.length := Go.Lib.size_eq s
  generalize hD : s.data.toList = D at hcl hsz
  have hlen : ((pcs [] D).map ba).length = D.count 10 + 1 := by rw [List.length_map, pcs_len]
  have hw : IntKind.i64.wrap ((((pcs [] D).map ba).length : Int) - 1) = ((D.count 10 : Nat) : Int) := by rw [hlen, wrap_pred (by omega) (by omega)]; congr 1
  rw [hw]
  refine Says.pos (by rw [hlen]; omega) ?_
  have hlast : nth .str ((pcs [] D).map ba) ((D.count 10 : Nat) : Int).toNat = ba ((pcs [] D).getLastD []) := by
    rw [Int.toNat_natCast]
    have hlt : D.count 10 < ((pcs [] D).map ba).length := by rw [hlen]; omega
    rw [nth_at (t := .str) hlt]
    simp only [List.getElem_map]
    congr 1
    have hl' : (pcs [] D).getLast? = some ((pcs [] D)[D.count 10]'(by rw [pcs_len]; omega)) := by
      rw [List.getLast?_eq_getElem?]
      have : (pcs [] D).length - 1 = D.count 10 := by rw [pcs_len]; rfl
      rw [this]
      exact List.getElem?_eq_getElem _
    rw [List.getLastD_eq_getLast?, hl']
    rfl
  rw [hlast, ba_toList]
  have hll : linesL s = (lns [] D).map ba := by rw [← hD]; rfl
  rw [hll]
  rcases pcs_lns D [] with ⟨h1, h2⟩ | ⟨x, h0, h1, h2⟩
  · refine Says.condT (by rw [List.getLastD_eq_getLast?, h1, noS_toList]; rfl) (Says.pos (by rw [hlen]; omega) ?_)
    rw [h2, Int.toNat_natCast, List.drop_zero]
    have : ((pcs [] D).map ba).take (D.count 10) = (pcs [] D).dropLast.map ba := by
      rw [List.dropLast_eq_take, pcs_len, List.map_take]; rfl
    rw [this]
    exact .now _
  · refine Says.condF (by
      rw [List.getLastD_eq_getLast?, h1, noS_toList]
      cases x with
      | nil => exact absurd rfl h0
      | cons a b => rfl) ?_
    rw [h2]
    exact .now _
theorem spec_split (s : ByteArray) (h : s.size ≤ 1048575) : spec_l1Split.s s = some (linesL s) := lim_says (says_spec_split s (by omega))
theorem impl_lines (s : ByteArray) (h : s.size ≤ 1048575) : impl_linesOf.s s = some (linesL s) := lim_says (says_linesOf s h)
def tf (s : ByteArray) : Int := if (s.size : Int) > 2000 then 2 else if ((linesL s).length : Int) > 100 then 2 else 0
theorem spec_tf (s : ByteArray) : spec_TextFault.s s = some (tf s) := by
  rw [spec_TextFault.e]; unfold tf
  by_cases h : (s.size : Int) > 2000
  · rw [if_pos h, if_pos h]
  · rw [if_neg h, if_neg h, spec_split s (by omega), Option.bind_some]
    split <;> rfl
theorem impl_tf (s : ByteArray) : impl_TextFault.s s = some (tf s) := by
  rw [impl_TextFault.e]; unfold tf
  by_cases h : (s.size : Int) > 2000
  · rw [if_pos h, if_pos h]
  · rw [if_neg h, if_neg h, impl_lines s (by omega), Option.bind_some]
    split <;> rfl
theorem tf_cases (s : ByteArray) : tf s = 0 ∨ tf s = 2 := by
  unfold tf
  split
  · exact .inr rfl
  · split
    · exact .inr rfl
    · exact .inl rfl
theorem tf_size {s : ByteArray} (h : tf s = 0) : s.size ≤ 2000 := by
  unfold tf at h
  split at h
  · omega
  · omega
def fc : List Int → Int
  | [] => 0
  | a :: l => if a = 0 then fc l else a
theorem fc_cons (a : Int) (l : List Int) : fc (a :: l) = if a = 0 then fc l else a := rfl
theorem firstCode_loop (l : List Int) (hl : l.length ≤ 1048576) : ∀ (k i : Nat), i + k = l.length → impl_firstCode_L2.s l l.length i = some (fc (l.drop i))
  | 0, i, h => by rw [impl_firstCode_L2.e, if_neg (by omega), List.drop_eq_nil_of_le (by omega)]; rfl
  | k + 1, i, h => by
    have hi : i < l.length := by omega
    rw [impl_firstCode_L2.e, if_pos (by omega), if_pos (by omega), wrap_succ (by omega), firstCode_loop l hl k (i + 1) (by omega), Int.toNat_natCast, nth_at (t := .int .i64) hi, List.drop_eq_getElem_cons hi, fc_cons]
    split <;> rfl
theorem firstCode_s (l : List Int) (hl : l.length ≤ 1048576) : impl_firstCode.s l = some (fc l) := by
  rw [impl_firstCode.e]
  have := firstCode_loop l hl l.length 0 (by omega)
  simpa using this
theorem firstCode2_s (a b : Int) : impl_firstCode.s (fillElems [((0 : Nat), a), ((1 : Nat), b)] (List.replicate (2 : Nat) (0 : Int))) = some (if a = 0 then b else a) := by
  rw [show fillElems [((0 : Nat), a), ((1 : Nat), b)] (List.replicate (2 : Nat) (0 : Int)) = [a, b] from rfl, firstCode_s _ (by simp)]
  unfold fc
  by_cases h : a = 0
  · simp only [if_pos h, fc]; split <;> simp_all
  · simp only [if_neg h]
theorem codeIf_s (c : Bool) (x : Int) : impl_codeIf.s c x = some (bif c then x else 0) := by
  rw [impl_codeIf.e]
  cases c <;> rfl
theorem nthS {l : List ByteArray} {i : Nat} (h : i < l.length) : nth Ty.str l i = l[i] := nth_at (t := .str) h
theorem nthI {l : List Int} {i : Nat} (h : i < l.length) : nth (Ty.int IntKind.i64) l i = l[i] := nth_at (t := .int .i64) h
/-! #### the table -/
theorem tab_len (a b : List ByteArray) : (tabL a b).length = a.length + 1 := by simp [tabL]
theorem tab_row (a b : List ByteArray) {i : Nat} (h : i < a.length + 1) : nth (Ty.int IntKind.i64).sl (tabL a b) i = (List.range (b.length + 1)).map fun j => ((lcsN (a.drop i) (b.drop j) : Nat) : Int) := by
  rw [nth_at (t := (Ty.int IntKind.i64).sl) (by rw [tab_len]; exact h)]
  simp [tabL]
theorem row_len (a b : List ByteArray) (i : Nat) : ((List.range (b.length + 1)).map fun j => ((lcsN (a.drop i) (b.drop j) : Nat) : Int)).length = b.length + 1 := by simp
theorem row_at (a b : List ByteArray) (i : Nat) {j : Nat} (h : j < b.length + 1) : nth (Ty.int IntKind.i64) ((List.range (b.length + 1)).map fun j => ((lcsN (a.drop i) (b.drop j) : Nat) : Int)) j = ((lcsN (a.drop i) (b.drop j) : Nat) : Int) := by
  rw [nthI (by simp; exact h)]
  simp
/-! #### the pairs -/
def mtch (a b : List ByteArray) : Nat → Nat → Nat → List (Nat × Nat)
  | 0, _, _ => []
  | f + 1, i, j => if h : i < a.length ∧ j < b.length then
      if a[i]'h.1 = b[j]'h.2 then (i, j) :: mtch a b f (i + 1) (j + 1)
      else if lcsN (a.drop i) (b.drop (j + 1)) ≤ lcsN (a.drop (i + 1)) (b.drop j) then mtch a b f (i + 1) j
      else mtch a b f i (j + 1)
    else []
def fsts (l : List (Nat × Nat)) : List Int := l.map fun p => (p.1 : Int)
def snds (l : List (Nat × Nat)) : List Int := l.map fun p => (p.2 : Int)
theorem spec_m_loop (a b : List ByteArray) (ha : a.length ≤ 50000) (hb : b.length ≤ 50000) : ∀ (f i j : Nat) (m7 m8 : List Int), a.length + b.length ≤ f + i + j → i ≤ a.length → j ≤ b.length → m7.length ≤ i → m8.length ≤ j →
    spec_l2Match_L6.s a b (tabL a b) m7.length m8.length i j m7 m8 = some (m7 ++ fsts (mtch a b f i j), m8 ++ snds (mtch a b f i j))
  | 0, i, j, m7, m8, h, hi, hj, h7, h8 => by
    rw [spec_l2Match_L6.e, if_neg (by omega)]
    simp [mtch, fsts, snds]
  | f + 1, i, j, m7, m8, h, hi, hj, h7, h8 => by
    rw [spec_l2Match_L6.e]
    unfold mtch
    by_cases hi1 : i < a.length
    rotate_left
    · rw [if_neg (by omega), dif_neg (by omega)]
      simp [fsts, snds]
    by_cases hj1 : j < b.length
    rotate_left
    · rw [if_pos (by omega), if_neg (by omega), dif_neg (by omega)]
      simp [fsts, snds]
    have c1 : ((i : Nat) : Int) < (a.length : Int) := by omega
    have c2 : ((j : Nat) : Int) < (b.length : Int) := by omega
    have c3 : 0 ≤ ((i : Nat) : Int) ∧ ((i : Nat) : Int) < (a.length : Int) := by omega
    have c4 : 0 ≤ ((j : Nat) : Int) ∧ ((j : Nat) : Int) < (b.length : Int) := by omega
    rw [if_pos c1, if_pos c2, if_pos c3, if_pos c4, dif_pos ⟨hi1, hj1⟩]
    simp only [Int.toNat_natCast, nthS hi1, nthS hj1, wrap_succ (show i < 4611686018427387904 by omega), wrap_succ (show j < 4611686018427387904 by omega), fill1, tab_len]
    by_cases he : a[i] = b[j]
    · rw [if_pos he, if_pos he, if_pos (by simp; omega), if_pos (by simp; omega)]
      have := spec_m_loop a b ha hb f (i + 1) (j + 1) (m7 ++ [(i : Int)]) (m8 ++ [(j : Int)]) (by omega) (by omega) (by omega) (by simp; omega) (by simp; omega)
      rw [this]
      simp [fsts, snds]
    · rw [if_neg he, if_neg he, if_pos (by omega)]
      simp only [tab_row a b (show i < a.length + 1 by omega), tab_row a b (show i + 1 < a.length + 1 by omega), row_len, row_at a b _ (show j < b.length + 1 by omega), row_at a b _ (show j + 1 < b.length + 1 by omega)]
      rw [if_pos (by omega), if_pos (by omega), if_pos (by omega)]
      by_cases hl : lcsN (a.drop i) (b.drop (j + 1)) ≤ lcsN (a.drop (i + 1)) (b.drop j)
      · have hc : ((lcsN (a.drop (i + 1)) (b.drop j) : Nat) : Int) ≥ ((lcsN (a.drop i) (b.drop (j + 1)) : Nat) : Int) := by omega
        rw [if_pos hc, if_pos hl]
        exact spec_m_loop a b ha hb f (i + 1) j m7 m8 (by omega) (by omega) (by omega) (by omega) (by omega)
      · have hc : ¬ ((lcsN (a.drop (i + 1)) (b.drop j) : Nat) : Int) ≥ ((lcsN (a.drop i) (b.drop (j + 1)) : Nat) : Int) := by omega
        rw [if_neg hc, if_neg hl]
        exact spec_m_loop a b ha hb f i (j + 1) m7 m8 (by omega) (by omega) (by omega) (by omega) (by omega)
theorem impl_m_loop (a b : List ByteArray) (ha : a.length ≤ 50000) (hb : b.length ≤ 50000) : ∀ (f i j : Nat) (m7 m8 : List Int), a.length + b.length ≤ f + i + j → i ≤ a.length → j ≤ b.length → m7.length ≤ i → m8.length ≤ j →
    impl_match_L4.s a b (tabL a b) m7.length m8.length i j m7 m8 = some (m7 ++ fsts (mtch a b f i j), m8 ++ snds (mtch a b f i j))
  | 0, i, j, m7, m8, h, hi, hj, h7, h8 => by
    rw [impl_match_L4.e, if_neg (by omega)]
    simp [mtch, fsts, snds]
  | f + 1, i, j, m7, m8, h, hi, hj, h7, h8 => by
    rw [impl_match_L4.e]
    unfold mtch
    by_cases hi1 : i < a.length
    rotate_left
    · rw [if_neg (by omega), dif_neg (by omega)]
      simp [fsts, snds]
    by_cases hj1 : j < b.length
    rotate_left
    · rw [if_pos (by omega), if_neg (by omega), dif_neg (by omega)]
      simp [fsts, snds]
    have c1 : ((i : Nat) : Int) < (a.length : Int) := by omega
    have c2 : ((j : Nat) : Int) < (b.length : Int) := by omega
    have c3 : 0 ≤ ((i : Nat) : Int) ∧ ((i : Nat) : Int) < (a.length : Int) := by omega
    have c4 : 0 ≤ ((j : Nat) : Int) ∧ ((j : Nat) : Int) < (b.length : Int) := by omega
    rw [if_pos c1, if_pos c2, if_pos c3, if_pos c4, dif_pos ⟨hi1, hj1⟩]
    simp only [Int.toNat_natCast, nthS hi1, nthS hj1, wrap_succ (show i < 4611686018427387904 by omega), wrap_succ (show j < 4611686018427387904 by omega), fill1, tab_len]
    by_cases he : a[i] = b[j]
    · rw [if_pos he, if_pos he, if_pos (by simp; omega), if_pos (by simp; omega)]
      have := impl_m_loop a b ha hb f (i + 1) (j + 1) (m7 ++ [(i : Int)]) (m8 ++ [(j : Int)]) (by omega) (by omega) (by omega) (by simp; omega) (by simp; omega)
      rw [this]
      simp [fsts, snds]
    · rw [if_neg he, if_neg he, if_pos (by omega)]
      simp only [tab_row a b (show i < a.length + 1 by omega), tab_row a b (show i + 1 < a.length + 1 by omega), row_len, row_at a b _ (show j < b.length + 1 by omega), row_at a b _ (show j + 1 < b.length + 1 by omega)]
      rw [if_pos (by omega), if_pos (by omega), if_pos (by omega)]
      by_cases hl : lcsN (a.drop i) (b.drop (j + 1)) ≤ lcsN (a.drop (i + 1)) (b.drop j)
      · have hc : ((lcsN (a.drop (i + 1)) (b.drop j) : Nat) : Int) ≥ ((lcsN (a.drop i) (b.drop (j + 1)) : Nat) : Int) := by omega
        rw [if_pos hc, if_pos hl]
        exact impl_m_loop a b ha hb f (i + 1) j m7 m8 (by omega) (by omega) (by omega) (by omega) (by omega)
      · have hc : ¬ ((lcsN (a.drop (i + 1)) (b.drop j) : Nat) : Int) ≥ ((lcsN (a.drop i) (b.drop (j + 1)) : Nat) : Int) := by omega
        rw [if_neg hc, if_neg hl]
        exact impl_m_loop a b ha hb f i (j + 1) m7 m8 (by omega) (by omega) (by omega) (by omega) (by omega)
def prs (a b : List ByteArray) : List (Nat × Nat) := mtch a b (a.length + b.length) 0 0
theorem spec_mt (a b : List ByteArray) (ha : a.length ≤ 50000) (hb : b.length ≤ 50000) : spec_l2Match.s a b = some (fsts (prs a b), snds (prs a b)) := by
  rw [spec_l2Match.e, if_pos ⟨ha, hb⟩]
  have := spec_m_loop a b ha hb (a.length + b.length) 0 0 [] [] (by omega) (by omega) (by omega) (by simp) (by simp)
  simpa [prs] using this
theorem impl_mt (a b : List ByteArray) (ha : a.length ≤ 50000) (hb : b.length ≤ 50000) : impl_match.s a b = some (fsts (prs a b), snds (prs a b)) := by
  rw [impl_match.e, if_pos ⟨ha, hb⟩]
  have := impl_m_loop a b ha hb (a.length + b.length) 0 0 [] [] (by omega) (by omega) (by omega) (by simp) (by simp)
  simpa [prs] using this
def Inc (n m : Nat) : Nat → Nat → List (Nat × Nat) → Prop
  | _, _, [] => True
  | i, j, p :: r => i ≤ p.1 ∧ p.1 < n ∧ j ≤ p.2 ∧ p.2 < m ∧ Inc n m (p.1 + 1) (p.2 + 1) r
theorem Inc.weak {n m : Nat} : ∀ {l : List (Nat × Nat)} {i j i' j' : Nat}, Inc n m i j l → i' ≤ i → j' ≤ j → Inc n m i' j' l
  | [], _, _, _, _, _, _, _ => True.intro
  | p :: r, _, _, _, _, ⟨h1, h2, h3, h4, h5⟩, hi, hj => ⟨by omega, h2, by omega, h4, h5⟩
theorem mtch_inc (a b : List ByteArray) : ∀ (f i j : Nat), Inc a.length b.length i j (mtch a b f i j)
  | 0, i, j => True.intro
  | f + 1, i, j => by
    unfold mtch
    split
    · rename_i h
      split
      · exact ⟨Nat.le_refl _, h.1, Nat.le_refl _, h.2, mtch_inc a b f (i + 1) (j + 1)⟩
      · split
        · exact (mtch_inc a b f (i + 1) j).weak (by omega) (by omega)
        · exact (mtch_inc a b f i (j + 1)).weak (by omega) (by omega)
    · exact True.intro
def pfn (l : List (Nat × Nat)) (k : Nat) : Int := match l with
  | [] => -1
  | p :: r => if p.1 = k then (p.2 : Int) else pfn r k
theorem pfn_low {n m : Nat} : ∀ {l : List (Nat × Nat)} {i j : Nat}, Inc n m i j l → ∀ k, k < i → pfn l k = -1
  | [], _, _, _, _, _ => rfl
  | p :: r, i, j, ⟨h1, h2, h3, h4, h5⟩, k, hk => by
    unfold pfn
    rw [if_neg (by omega)]
    exact pfn_low h5 k (by omega)
theorem pfn_rng {n m : Nat} : ∀ {l : List (Nat × Nat)} {i j : Nat}, Inc n m i j l → ∀ k, pfn l k = -1 ∨ (i ≤ k ∧ k < n ∧ (j : Int) ≤ pfn l k ∧ pfn l k < m)
  | [], _, _, _, _ => .inl rfl
  | p :: r, i, j, ⟨h1, h2, h3, h4, h5⟩, k => by
    unfold pfn
    by_cases e : p.1 = k
    · rw [if_pos e]; exact .inr (by omega)
    · rw [if_neg e]
      rcases pfn_rng h5 k with h | h
      · exact .inl h
      · exact .inr (by omega)
theorem pfn_inc {n m : Nat} : ∀ {l : List (Nat × Nat)} {i j : Nat}, Inc n m i j l → ∀ k k', k < k' → 0 ≤ pfn l k → 0 ≤ pfn l k' → pfn l k < pfn l k'
  | [], _, _, _, _, _, _, h, _ => by cases h
  | p :: r, i, j, ⟨h1, h2, h3, h4, h5⟩, k, k', hk, q1, q2 => by
    unfold pfn at q1 q2 ⊢
    by_cases e : p.1 = k
    · rw [if_pos e]
      rw [if_neg (by omega)] at q2 ⊢
      rcases pfn_rng h5 k' with h | h
      · omega
      · omega
    · rw [if_neg e] at q1 ⊢
      by_cases e' : p.1 = k'
      · have := pfn_low h5 k (by omega)
        omega
      · rw [if_neg e'] at q2 ⊢
        exact pfn_inc h5 k k' hk q1 q2
def setP (l : List Int) (ps : List (Nat × Nat)) : List Int := ps.foldl (fun l p => l.set p.1 (p.2 : Int)) l
theorem setP_len : ∀ (ps : List (Nat × Nat)) (l : List Int), (setP l ps).length = l.length
  | [], _ => rfl
  | p :: r, l => by
    show (setP (l.set p.1 _) r).length = _
    rw [setP_len r]; simp
theorem setP_at {n m : Nat} : ∀ (ps : List (Nat × Nat)) (l : List Int) (i j : Nat), Inc n m i j ps → l.length = n → ∀ k (hk : k < (setP l ps).length), (setP l ps)[k] = if pfn ps k = -1 then l[k]'(by rw [← setP_len ps l]; exact hk) else pfn ps k
  | [], l, i, j, h, hl, k, hk => by rw [if_pos (show pfn [] k = -1 from rfl)]; rfl
  | p :: r, l, i, j, ⟨h1, h2, h3, h4, h5⟩, hl, k, hk => by
    have hk' : k < (setP (l.set p.1 (p.2 : Int)) r).length := hk
    have ih := setP_at r (l.set p.1 (p.2 : Int)) (p.1 + 1) (p.2 + 1) h5 (by simpa using hl) k hk'
    show (setP (l.set p.1 (p.2 : Int)) r)[k] = _
    rw [ih]
    have he : pfn (p :: r) k = if p.1 = k then (p.2 : Int) else pfn r k := rfl
    rw [he]
    by_cases e : p.1 = k
    · have hlow := pfn_low h5 k (by omega)
      rw [if_pos hlow, if_pos e, if_neg (by omega)]
      subst e
      simp
    · rw [if_neg e]
      by_cases e2 : pfn r k = -1
      · rw [if_pos e2, if_pos e2, List.getElem_set_ne e]
      · rw [if_neg e2, if_neg e2]
def part (n : Nat) (ps : List (Nat × Nat)) : List Int := setP (List.replicate n (-1)) ps
theorem part_len (n : Nat) (ps : List (Nat × Nat)) : (part n ps).length = n := by unfold part; rw [setP_len]; simp
theorem part_at {n m : Nat} {ps : List (Nat × Nat)} (h : Inc n m 0 0 ps) {k : Nat} (hk : k < n) : nth (Ty.int IntKind.i64) (part n ps) k = pfn ps k := by
  rw [nthI (by rw [part_len]; exact hk)]
  have := setP_at ps (List.replicate n (-1)) 0 0 h (by simp) k (by rw [setP_len]; simpa using hk)
  refine Eq.trans this ?_
  split
  · rename_i e; rw [e]; simp
  · rfl
theorem fs_nth (l : List (Nat × Nat)) {i : Nat} (h : i < l.length) : nth (Ty.int IntKind.i64) (fsts l) i = ((l[i].1 : Nat) : Int) ∧ nth (Ty.int IntKind.i64) (snds l) i = ((l[i].2 : Nat) : Int) := by
  refine ⟨?_, ?_⟩
  · rw [nthI (by simpa [fsts] using h)]; simp [fsts]
  · rw [nthI (by simpa [snds] using h)]; simp [snds]
theorem fs_len (l : List (Nat × Nat)) : (fsts l).length = l.length ∧ (snds l).length = l.length := by simp [fsts, snds]
theorem Inc.all {n m : Nat} : ∀ {l : List (Nat × Nat)} {i j : Nat}, Inc n m i j l → ∀ p ∈ l, p.1 < n
  | [], _, _, _, _, h => by cases h
  | q :: r, _, _, ⟨h1, h2, h3, h4, h5⟩, p, h => by
    rcases List.mem_cons.1 h with rfl | h
    · exact h2
    · exact h5.all p h
theorem Inc.len {n m : Nat} : ∀ {l : List (Nat × Nat)} {i j : Nat}, Inc n m i j l → i ≤ n → l.length + i ≤ n
  | [], _, _, _, h => by simpa using h
  | q :: r, i, j, ⟨h1, h2, h3, h4, h5⟩, h => by
    have := h5.len (by omega)
    simp only [List.length_cons]
    omega
theorem spec_set (n m : Nat) (ps : List (Nat × Nat)) (hin : Inc n m 0 0 ps) (hn : n ≤ 50000) : ∀ (k i : Nat) (l : List Int), i + k = ps.length → l.length = n → spec_l4Partner_L8.s n (fsts ps) (snds ps) i l = some (setP l (ps.drop i))
  | 0, i, l, h, hl => by
    rw [spec_l4Partner_L8.e, if_neg (by rw [(fs_len ps).1]; omega), List.drop_eq_nil_of_le (by omega)]; rfl
  | k + 1, i, l, h, hl => by
    have hi : i < ps.length := by omega
    have hlt := hin.all _ (List.getElem_mem hi)
    have hpl := hin.len (Nat.zero_le _)
    obtain ⟨q1, q2⟩ := fs_nth ps hi
    rw [spec_l4Partner_L8.e]
    simp only [(fs_len ps).1, (fs_len ps).2, Int.toNat_natCast, q1, q2]
    have c1 : ((i : Nat) : Int) < (ps.length : Int) := by omega
    have c2 : 0 ≤ ((i : Nat) : Int) ∧ ((i : Nat) : Int) < (ps.length : Int) := by omega
    have c3 : 0 ≤ ((ps[i].1 : Nat) : Int) ∧ ((ps[i].1 : Nat) : Int) < (n : Int) := by omega
    rw [if_pos c1, if_pos c2, if_pos c2, if_pos c3, wrap_succ (by omega), spec_set n m ps hin hn k (i + 1) _ (by omega) (by simpa using hl), List.drop_eq_getElem_cons hi]
    rfl
theorem impl_set (n m : Nat) (ps : List (Nat × Nat)) (hin : Inc n m 0 0 ps) (hn : n ≤ 50000) : ∀ (k i : Nat) (l : List Int), i + k = ps.length → l.length = n → impl_places_L8.s n (snds ps) (fsts ps) ps.length i l = some (setP l (ps.drop i))
  | 0, i, l, h, hl => by
    rw [impl_places_L8.e, if_neg (by omega), List.drop_eq_nil_of_le (by omega)]; rfl
  | k + 1, i, l, h, hl => by
    have hi : i < ps.length := by omega
    have hlt := hin.all _ (List.getElem_mem hi)
    have hpl := hin.len (Nat.zero_le _)
    obtain ⟨q1, q2⟩ := fs_nth ps hi
    rw [impl_places_L8.e]
    simp only [(fs_len ps).1, (fs_len ps).2, Int.toNat_natCast, q1, q2]
    have c1 : ((i : Nat) : Int) < (ps.length : Int) := by omega
    have c2 : 0 ≤ ((i : Nat) : Int) ∧ ((i : Nat) : Int) < (ps.length : Int) := by omega
    have c3 : 0 ≤ ((ps[i].1 : Nat) : Int) ∧ ((ps[i].1 : Nat) : Int) < (n : Int) := by omega
    rw [if_pos c1, if_pos c2, if_pos c2, if_pos c3, wrap_succ (by omega), impl_set n m ps hin hn k (i + 1) _ (by omega) (by simpa using hl), List.drop_eq_getElem_cons hi]
    rfl
theorem prs_inc (a b : List ByteArray) : Inc a.length b.length 0 0 (prs a b) := mtch_inc a b _ 0 0
theorem spec_fill (a b : List ByteArray) (ha : a.length ≤ 50000) (hb : b.length ≤ 50000) : ∀ (k i : Nat) (l : List Int), i + k = a.length → l = List.replicate i (-1) ++ List.replicate k 0 → spec_l4Partner_L3.s a b a.length i l = some (part a.length (prs a b))
  | 0, i, l, h, hl => by
    have hl' : l = List.replicate a.length (-1) := by rw [hl, show i = a.length by omega]; simp
    rw [spec_l4Partner_L3.e, if_neg (by omega), spec_mt a b ha hb, Option.bind_some]
    have := spec_set a.length b.length (prs a b) (prs_inc a b) ha (prs a b).length 0 l (by omega) (by rw [hl']; simp)
    rw [List.drop_zero, hl'] at this
    rw [hl']
    exact this
  | k + 1, i, l, h, hl => by
    rw [spec_l4Partner_L3.e, if_pos (by omega), if_pos (by omega), wrap_succ (by omega), Int.toNat_natCast]
    refine spec_fill a b ha hb k (i + 1) _ (by omega) ?_
    rw [hl, List.replicate_succ' (n := i), List.replicate_succ, List.set_append_right _ _ (by simp)]
    simp
theorem spec_partner (a b : List ByteArray) (ha : a.length ≤ 50000) (hb : b.length ≤ 50000) : spec_l4Partner.s a b = some (part a.length (prs a b)) := by
  rw [spec_l4Partner.e, if_pos (by omega), Int.toNat_natCast, List.length_replicate]
  exact spec_fill a b ha hb a.length 0 _ (by omega) (by simp)
theorem impl_fill (a b : List ByteArray) (ha : a.length ≤ 50000) (hb : b.length ≤ 50000) : ∀ (k i : Nat) (l : List Int), i + k = a.length → l = List.replicate i (-1) → impl_places_L3.s a b l.length a.length i l = some (part a.length (prs a b))
  | 0, i, l, h, hl => by
    have hl' : l = List.replicate a.length (-1) := by rw [hl, show i = a.length by omega]
    rw [impl_places_L3.e, if_neg (by omega), impl_mt a b ha hb, Option.bind_some]
    have := impl_set a.length b.length (prs a b) (prs_inc a b) ha (prs a b).length 0 l (by omega) (by rw [hl']; simp)
    rw [List.drop_zero, hl'] at this
    rw [hl', List.length_replicate]
    simp only [(fs_len _).1]
    exact this
  | k + 1, i, l, h, hl => by
    have hll : l.length = i := by rw [hl]; simp
    rw [impl_places_L3.e, if_pos (by omega), fill1, if_pos (by simp; omega), wrap_succ (by omega)]
    refine impl_fill a b ha hb k (i + 1) _ (by omega) ?_
    rw [hl, List.replicate_succ']
theorem impl_partner (a b : List ByteArray) (ha : a.length ≤ 50000) (hb : b.length ≤ 50000) : impl_places.s a b = some (part a.length (prs a b)) := by
  rw [impl_places.e]
  exact impl_fill a b ha hb a.length 0 [] (by omega) (by simp)
theorem wrap_add {a b : Nat} (h : a + b < 4611686018427387904) : IntKind.i64.wrap ((a : Int) + (b : Int)) = ((a + b : Nat) : Int) := by rw [wrap_id (by omega) (by omega)]; omega
theorem wrap_sub {a b : Nat} (h : b ≤ a) (h2 : a < 4611686018427387904) : IntKind.i64.wrap ((a : Int) - (b : Int)) = ((a - b : Nat) : Int) := by rw [wrap_id (by omega) (by omega)]; omega
/-! #### lists compared -/
theorem spec_same_loop (a b : List ByteArray) (hl : a.length = b.length) (ha : a.length ≤ 50000) : ∀ (k i : Nat), i + k = a.length → spec_SameLines_L4.s a b i = some (decide (a.drop i = b.drop i))
  | 0, i, h => by
    rw [spec_SameLines_L4.e, if_neg (by omega), List.drop_eq_nil_of_le (by omega), List.drop_eq_nil_of_le (by omega)]; rfl
  | k + 1, i, h => by
    have h1 : i < a.length := by omega
    have h2 : i < b.length := by omega
    rw [spec_SameLines_L4.e, if_pos (by omega), if_pos (by omega), if_pos (by omega), Int.toNat_natCast, nthS h1, nthS h2, wrap_succ (by omega), spec_same_loop a b hl ha k (i + 1) (by omega), List.drop_eq_getElem_cons h1, List.drop_eq_getElem_cons h2]
    by_cases e : a[i] = b[i]
    · rw [if_pos e]
      congr 1
      rw [decide_eq_decide]
      exact ⟨fun h => by rw [e, h], fun h => (List.cons.inj h).2⟩
    · rw [if_neg e]
      congr 1
      symm
      rw [decide_eq_false_iff_not]
      exact fun h => e (List.cons.inj h).1
theorem spec_same (a b : List ByteArray) (ha : a.length ≤ 50000) (hb : b.length ≤ 50000) : spec_SameLines.s a b = some (decide (a = b)) := by
  rw [spec_SameLines.e]
  by_cases h : a.length = b.length
  · rw [if_pos (by omega)]
    exact spec_same_loop a b h ha a.length 0 (by omega)
  · rw [if_neg (by omega), decide_eq_false fun e => h (by rw [e])]
theorem impl_same_loop (a b : List ByteArray) (hl : a.length = b.length) (ha : a.length ≤ 50000) : ∀ (k i : Nat), i + k = a.length → slices_Equal___string_string__L4.s a b a.length i = some (decide (a.drop i = b.drop i))
  | 0, i, h => by
    rw [slices_Equal___string_string__L4.e, if_neg (by omega), List.drop_eq_nil_of_le (by omega), List.drop_eq_nil_of_le (by omega)]; rfl
  | k + 1, i, h => by
    have h1 : i < a.length := by omega
    have h2 : i < b.length := by omega
    rw [slices_Equal___string_string__L4.e, if_pos (by omega), if_pos (by omega), if_pos (by omega), Int.toNat_natCast, nthS h1, nthS h2, wrap_succ (by omega), impl_same_loop a b hl ha k (i + 1) (by omega), List.drop_eq_getElem_cons h1, List.drop_eq_getElem_cons h2]
    by_cases e : a[i] = b[i]
    · rw [if_pos e]
      congr 1
      rw [decide_eq_decide]
      exact ⟨fun h => by rw [e, h], fun h => (List.cons.inj h).2⟩
    · rw [if_neg e]
      congr 1
      symm
      rw [decide_eq_false_iff_not]
      exact fun h => e (List.cons.inj h).1
theorem impl_same (a b : List ByteArray) (ha : a.length ≤ 50000) (hb : b.length ≤ 50000) : slices_Equal___string_string_.s a b = some (decide (a = b)) := by
  rw [slices_Equal___string_string_.e]
  by_cases h : a.length = b.length
  · rw [if_pos (by omega)]
    exact impl_same_loop a b h ha a.length 0 (by omega)
  · rw [if_neg (by omega), decide_eq_false fun e => h (by rw [e])]
theorem spec_copy (a : List ByteArray) (ha : a.length ≤ 50000) : spec_l4Copy.s a = some a := by rw [spec_l4Copy.e, if_pos (by omega)]; rfl
theorem impl_clone (a : List ByteArray) (ha : a.length ≤ 50000) : slices_Clone___string_string_.s a = some a := by
  rw [slices_Clone___string_string_.e]
  by_cases h : a.length = 0
  · have h' := List.length_eq_zero_iff.1 h
    subst h'
    rw [if_pos h]
    unfold joinO
    rw [if_pos (by rfl)]
  · rw [if_neg h, if_pos (by omega)]; rfl
/-! #### chunks -/
def kd (bs os ts : List ByteArray) : Int := if bs = os then (if bs = ts then 0 else 2) else if bs = ts then 1 else if os = ts then 3 else 4
theorem spec_kd (bs os ts : List ByteArray) (h1 : bs.length ≤ 50000) (h2 : os.length ≤ 50000) (h3 : ts.length ≤ 50000) : spec_l4Kind.s bs os ts = some (kd bs os ts) := by
  rw [spec_l4Kind.e, spec_same bs os h1 h2, spec_same bs ts h1 h3, spec_same os ts h2 h3]
  simp only [Option.bind_some, decide_eq_true_eq]
  unfold kd
  by_cases a : bs = os <;> by_cases b : bs = ts <;> by_cases c : os = ts <;> simp [a, b, c] <;> simp_all
theorem impl_kd (bs os ts : List ByteArray) (h1 : bs.length ≤ 50000) (h2 : os.length ≤ 50000) (h3 : ts.length ≤ 50000) : impl_kindOf.s bs os ts = some (kd bs os ts) := by
  rw [impl_kindOf.e, impl_same bs os h1 h2, impl_same bs ts h1 h3, impl_same os ts h2 h3]
  simp only [Option.bind_some, decide_eq_true_eq]
  unfold kd
  by_cases a : bs = os <;> by_cases b : bs = ts <;> by_cases c : os = ts <;> simp [a, b, c] <;> simp_all
def ck (bs os ts : List ByteArray) : T_Chunk.den := (kd bs os ts, bs, os, ts, ())
def putC (out : List T_Chunk.den) (bs os ts : List ByteArray) : List T_Chunk.den := if bs.length + os.length + ts.length = 0 then out else out ++ [ck bs os ts]
theorem wrap3 {a b c : Nat} (h : a + b + c < 4611686018427387904) : IntKind.i64.wrap (IntKind.i64.wrap ((a : Int) + (b : Int)) + (c : Int)) = ((a + b + c : Nat) : Int) := by rw [wrap_add (by omega), wrap_add (by omega)]
theorem spec_put (out : List T_Chunk.den) (bs os ts : List ByteArray) (h1 : bs.length ≤ 50000) (h2 : os.length ≤ 50000) (h3 : ts.length ≤ 50000) (ho : out.length ≤ 4000000000) : spec_l4Put.s out bs os ts = some (putC out bs os ts) := by
  rw [spec_l4Put.e, wrap3 (by omega)]
  unfold putC
  by_cases h : bs.length + os.length + ts.length = 0
  · rw [if_pos (by omega), if_pos h]
  · rw [if_neg (by omega), if_neg h, spec_kd bs os ts h1 h2 h3, spec_copy bs h1, spec_copy os h2, spec_copy ts h3]
    simp only [Option.bind_some]
    rw [if_pos (by rw [fill1]; simp; omega), fill1]
    rfl
theorem impl_ck (bs os ts : List ByteArray) (h1 : bs.length ≤ 50000) (h2 : os.length ≤ 50000) (h3 : ts.length ≤ 50000) : impl_chunkOf.s bs os ts = some (ck bs os ts) := by
  rw [impl_chunkOf.e, impl_kd bs os ts h1 h2 h3, impl_clone bs h1, impl_clone os h2, impl_clone ts h3]
  rfl
theorem putC_len (out : List T_Chunk.den) (bs os ts : List ByteArray) : (putC out bs os ts).length ≤ out.length + 1 := by
  unfold putC
  split
  · omega
  · simp
def sub_ (l : List ByteArray) (i j : Nat) : List ByteArray := (l.take j).drop i
theorem sub_len (l : List ByteArray) (i j : Nat) : (sub_ l i j).length ≤ l.length := by unfold sub_; simp; omega
def tot (l : List ByteArray) : Nat := (l.map ByteArray.size).sum
theorem tot_take : ∀ (l : List ByteArray) (j : Nat), tot (l.take j) ≤ tot l
  | [], j => by simp [tot]
  | x :: r, 0 => by simp [tot]
  | x :: r, j + 1 => by
    have := tot_take r j
    simp only [tot, List.take_succ_cons, List.map_cons, List.sum_cons] at this ⊢
    omega
theorem tot_drop : ∀ (l : List ByteArray) (j : Nat), tot (l.drop j) ≤ tot l
  | [], j => by simp [tot]
  | x :: r, 0 => by simp [tot]
  | x :: r, j + 1 => by
    have := tot_drop r j
    simp only [tot, List.drop_succ_cons, List.map_cons, List.sum_cons] at this ⊢
    omega
theorem tot_sub (l : List ByteArray) (i j : Nat) : tot (sub_ l i j) ≤ tot l := Nat.le_trans (tot_drop _ i) (tot_take l j)
structure TotN (nb : Nat) (l : List ByteArray) : Prop where
  le : tot l ≤ nb
  ne : ∀ s ∈ l, (s : ByteArray).size ≠ 0
theorem sub_ne {nb : Nat} {l : List ByteArray} (h : TotN nb l) (i j : Nat) : ∀ s ∈ sub_ l i j, (s : ByteArray).size ≠ 0 := fun s hs => h.ne s (List.mem_of_mem_take (List.mem_of_mem_drop hs))
structure SmallC (nb : Nat) (c : T_Chunk.den) : Prop where
  b1 : tot c.2.1 ≤ nb
  o1 : tot c.2.2.1 ≤ nb
  t1 : tot c.2.2.2.1 ≤ nb
  b2 : (c.2.1 : List ByteArray).length ≤ 50000
  o2 : (c.2.2.1 : List ByteArray).length ≤ 50000
  t2 : (c.2.2.2.1 : List ByteArray).length ≤ 50000
  nb_ : ∀ s ∈ (c.2.1 : List ByteArray), s.size ≠ 0
  no_ : ∀ s ∈ (c.2.2.1 : List ByteArray), s.size ≠ 0
  nt_ : ∀ s ∈ (c.2.2.2.1 : List ByteArray), s.size ≠ 0
section
variable (base ours theirs : List ByteArray)
def pA (q : Nat) : Int := pfn (prs base ours) q
def pA' : List Int := part base.length (prs base ours)
def oneL : List Int := pA' base ours ++ [(ours.length : Int)]
theorem pA'_at {q : Nat} (h : q < base.length) : nth (Ty.int IntKind.i64) (pA' base ours) q = pA base ours q := part_at (prs_inc base ours) h
theorem pA'_len : (pA' base ours).length = base.length := part_len _ _
theorem oneL_len : (oneL base ours).length = base.length + 1 := by unfold oneL; simp [pA'_len]
theorem oneL_at {q : Nat} (h : q < base.length) : nth (Ty.int IntKind.i64) (oneL base ours) q = pA base ours q := by
  rw [← pA'_at base ours h, nthI (by rw [oneL_len]; omega), nthI (by rw [pA'_len]; exact h)]
  unfold oneL
  rw [List.getElem_append_left]
theorem oneL_end : nth (Ty.int IntKind.i64) (oneL base ours) base.length = (ours.length : Int) := by
  rw [nthI (by rw [oneL_len]; omega)]
  unfold oneL
  rw [List.getElem_append_right (by rw [pA'_len]; omega)]
  simp [pA'_len]
theorem pA_rng (q : Nat) : pA base ours q = -1 ∨ (q < base.length ∧ 0 ≤ pA base ours q ∧ pA base ours q < ours.length) := by
  rcases pfn_rng (prs_inc base ours) q with h | ⟨_, h1, h2, h3⟩
  · exact .inl h
  · exact .inr ⟨h1, by unfold pA; omega, h3⟩
theorem pA_inc (q q' : Nat) (h : q < q') (h1 : 0 ≤ pA base ours q) (h2 : 0 ≤ pA base ours q') : pA base ours q < pA base ours q' := pfn_inc (prs_inc base ours) q q' h h1 h2
structure Seek (nb i j k : Nat) (out : List T_Chunk.den) : Prop where
  hi : i ≤ base.length
  hj : j ≤ ours.length
  hk : k ≤ theirs.length
  ja : ∀ q, i ≤ q → 0 ≤ pA base ours q → (j : Int) ≤ pA base ours q
  ka : ∀ q, i ≤ q → 0 ≤ pA base theirs q → (k : Int) ≤ pA base theirs q
  len : out.length ≤ 2 * i
  small : ∀ c ∈ out, SmallC nb c
def Res (nb N : Nat) (x y : Option (List T_Chunk.den)) : Prop := ∃ r, x = some r ∧ y = some r ∧ r.length ≤ 2 * N + 2 ∧ ∀ c ∈ r, SmallC nb c
end
theorem putC_small {nb : Nat} {out : List T_Chunk.den} {bs os ts : List ByteArray} (h : ∀ c ∈ out, SmallC nb c) (hc : SmallC nb (ck bs os ts)) : ∀ c ∈ putC out bs os ts, SmallC nb c := by
  intro c hm
  unfold putC at hm
  split at hm
  · exact h c hm
  · rcases List.mem_append.1 hm with hm | hm
    · exact h c hm
    · rw [List.mem_singleton.1 hm]; exact hc
theorem sub_small {nb : Nat} {base ours theirs : List ByteArray} (h1 : TotN nb base) (h2 : TotN nb ours) (h3 : TotN nb theirs) (l1 : base.length ≤ 50000) (l2 : ours.length ≤ 50000) (l3 : theirs.length ≤ 50000) (a b c d e f : Nat) :
    SmallC nb (ck (sub_ base a b) (sub_ ours c d) (sub_ theirs e f)) :=
  ⟨Nat.le_trans (tot_sub _ _ _) h1.le, Nat.le_trans (tot_sub _ _ _) h2.le, Nat.le_trans (tot_sub _ _ _) h3.le, Nat.le_trans (sub_len _ _ _) l1, Nat.le_trans (sub_len _ _ _) l2, Nat.le_trans (sub_len _ _ _) l3, sub_ne h1 _ _, sub_ne h2 _ _, sub_ne h3 _ _⟩
theorem impl_add {β : Type} (out : List T_Chunk.den) (bs os ts : List ByteArray) (ho : out.length ≤ 4000000000) (h1 : bs.length ≤ 50000) (h2 : os.length ≤ 50000) (h3 : ts.length ≤ 50000) (K : Nat → List T_Chunk.den → Option β) (K0 : Option β) (hK : K0 = K out.length out) :
    (if (IntKind.i64.wrap (IntKind.i64.wrap ((↑(List.length (ck bs os ts).snd.fst) : Int) + (↑(List.length (ck bs os ts).snd.snd.fst) : Int)) + (↑(List.length (ck bs os ts).snd.snd.snd.fst) : Int)) > (0 : Int)) then
      if (out.length + (fillElems [((0 : Nat), (ck bs os ts).fst, (ck bs os ts).snd.fst, (ck bs os ts).snd.snd.fst, (ck bs os ts).snd.snd.snd.fst, ())] (List.replicate (1 : Nat) ((0 : Int), ([] : List ByteArray), ([] : List ByteArray), ([] : List ByteArray), ()))).length < (4294967296 : Nat)) then
        K (out ++ fillElems [((0 : Nat), (ck bs os ts).fst, (ck bs os ts).snd.fst, (ck bs os ts).snd.snd.fst, (ck bs os ts).snd.snd.snd.fst, ())] (List.replicate (1 : Nat) ((0 : Int), ([] : List ByteArray), ([] : List ByteArray), ([] : List ByteArray), ()))).length (out ++ fillElems [((0 : Nat), (ck bs os ts).fst, (ck bs os ts).snd.fst, (ck bs os ts).snd.snd.fst, (ck bs os ts).snd.snd.snd.fst, ())] (List.replicate (1 : Nat) ((0 : Int), ([] : List ByteArray), ([] : List ByteArray), ([] : List ByteArray), ()))) else none else K0) = K (putC out bs os ts).length (putC out bs os ts) := by
  have hw : IntKind.i64.wrap (IntKind.i64.wrap ((↑(List.length (ck bs os ts).snd.fst) : Int) + (↑(List.length (ck bs os ts).snd.snd.fst) : Int)) + (↑(List.length (ck bs os ts).snd.snd.snd.fst) : Int)) = ((bs.length + os.length + ts.length : Nat) : Int) := wrap3 (a := bs.length) (b := os.length) (c := ts.length) (by omega)
  have hf : fillElems [((0 : Nat), (ck bs os ts).fst, (ck bs os ts).snd.fst, (ck bs os ts).snd.snd.fst, (ck bs os ts).snd.snd.snd.fst, ())] (List.replicate (1 : Nat) ((0 : Int), ([] : List ByteArray), ([] : List ByteArray), ([] : List ByteArray), ())) = [ck bs os ts] := rfl
  rw [hw, hf]
  unfold putC
  by_cases h : bs.length + os.length + ts.length = 0
  · rw [if_neg (by omega), if_pos h, hK]
  · rw [if_pos (by omega), if_neg h, if_pos (by simp; omega)]
section
variable {nb : Nat} {base ours theirs : List ByteArray}
theorem spec_run_exit (l1 : base.length ≤ 50000) (l2 : ours.length ≤ 50000) (l3 : theirs.length ≤ 50000) (p u v n : Nat) (out : List T_Chunk.den) (hp : p + n ≤ base.length) (hu : u + n ≤ ours.length) (hv : v + n ≤ theirs.length) (ho : out.length ≤ 200000)
    (hc : ¬ (p + n < base.length ∧ pA base ours (p + n) = ((u + n : Nat) : Int) ∧ pA base theirs (p + n) = ((v + n : Nat) : Int))) :
    spec_l4Chunks_L9.s base ours theirs (pA' base ours) (pA' base theirs) out.length p u v base.length n out =
      spec_l4Chunks_L16.s base ours theirs (pA' base ours) (pA' base theirs) (putC out (sub_ base p (p + n)) (sub_ ours u (u + n)) (sub_ theirs v (v + n))).length ((p + n : Nat) : Int) ((u + n : Nat) : Int) ((v + n : Nat) : Int) base.length ((p + n : Nat) : Int) (putC out (sub_ base p (p + n)) (sub_ ours u (u + n)) (sub_ theirs v (v + n))) := by
  have q1 : 0 ≤ ((p + n : Nat) : Int) ∧ ((p + n : Nat) : Int) ≤ (base.length : Int) := by omega
  have q2 : 0 ≤ ((p : Nat) : Int) ∧ ((p : Nat) : Int) ≤ ((p + n : Nat) : Int) := by omega
  have q3 : 0 ≤ ((u + n : Nat) : Int) ∧ ((u + n : Nat) : Int) ≤ (ours.length : Int) := by omega
  have q4 : 0 ≤ ((u : Nat) : Int) ∧ ((u : Nat) : Int) ≤ ((u + n : Nat) : Int) := by omega
  have q5 : 0 ≤ ((v + n : Nat) : Int) ∧ ((v + n : Nat) : Int) ≤ (theirs.length : Int) := by omega
  have q6 : 0 ≤ ((v : Nat) : Int) ∧ ((v : Nat) : Int) ≤ ((v + n : Nat) : Int) := by omega
  have s1 := sub_len base p (p + n)
  have s2 := sub_len ours u (u + n)
  have s3 := sub_len theirs v (v + n)
  have hput : spec_l4Put.s out (List.drop p (List.take (p + n) base)) (List.drop u (List.take (u + n) ours)) (List.drop v (List.take (v + n) theirs)) = some (putC out (sub_ base p (p + n)) (sub_ ours u (u + n)) (sub_ theirs v (v + n))) :=
    spec_put out (sub_ base p (p + n)) (sub_ ours u (u + n)) (sub_ theirs v (v + n)) (by omega) (by omega) (by omega) (by omega)
  rw [spec_l4Chunks_L9.e]
  simp only [wrap_add (show p + n < 4611686018427387904 by omega), wrap_add (show u + n < 4611686018427387904 by omega), wrap_add (show v + n < 4611686018427387904 by omega), Int.toNat_natCast, pA'_len]
  by_cases h1 : p + n < base.length
  · have c1 : ((p + n : Nat) : Int) < (base.length : Int) := by omega
    have c2 : 0 ≤ ((p + n : Nat) : Int) ∧ ((p + n : Nat) : Int) < (base.length : Int) := by omega
    rw [if_pos c1, if_pos c2, pA'_at base ours h1]
    by_cases h2 : pA base ours (p + n) = ((u + n : Nat) : Int)
    · rw [if_pos h2, if_pos c2, pA'_at base theirs h1, if_neg (fun h3 => hc ⟨h1, h2, h3⟩)]
      rw [if_pos q1, if_pos q2, if_pos q3, if_pos q4, if_pos q5, if_pos q6, hput, Option.bind_some]
    · rw [if_neg h2]
      rw [if_pos q1, if_pos q2, if_pos q3, if_pos q4, if_pos q5, if_pos q6, hput, Option.bind_some]
  · have c1 : ¬ ((p + n : Nat) : Int) < (base.length : Int) := by omega
    rw [if_neg c1]
    rw [if_pos q1, if_pos q2, if_pos q3, if_pos q4, if_pos q5, if_pos q6, hput, Option.bind_some]
theorem spec_run_step (l1 : base.length ≤ 50000) (p u v n : Nat) (out : List T_Chunk.den) (hub : u + n ≤ 50000) (hvb : v + n ≤ 50000)
    (hc : p + n < base.length ∧ pA base ours (p + n) = ((u + n : Nat) : Int) ∧ pA base theirs (p + n) = ((v + n : Nat) : Int)) :
    spec_l4Chunks_L9.s base ours theirs (pA' base ours) (pA' base theirs) out.length p u v base.length n out =
      spec_l4Chunks_L9.s base ours theirs (pA' base ours) (pA' base theirs) out.length p u v base.length ((n + 1 : Nat) : Int) out := by
  obtain ⟨h1, h2, h3⟩ := hc
  have c1 : ((p + n : Nat) : Int) < (base.length : Int) := by omega
  have c2 : 0 ≤ ((p + n : Nat) : Int) ∧ ((p + n : Nat) : Int) < (base.length : Int) := by omega
  conv => lhs; rw [spec_l4Chunks_L9.e]
  simp only [wrap_add (show p + n < 4611686018427387904 by omega), wrap_add (show u + n < 4611686018427387904 by omega), wrap_add (show v + n < 4611686018427387904 by omega), Int.toNat_natCast, pA'_len]
  rw [if_pos c1, if_pos c2, pA'_at base ours h1, if_pos h2, if_pos c2, pA'_at base theirs h1, if_pos h3, wrap_succ (by omega)]
theorem impl_run_exit (l1 : base.length ≤ 50000) (l2 : ours.length ≤ 50000) (l3 : theirs.length ≤ 50000) (p u v n : Nat) (out : List T_Chunk.den) (hp : p + n ≤ base.length) (hu : u + n ≤ ours.length) (hv : v + n ≤ theirs.length) (ho : out.length ≤ 200000)
    (hc : ¬ (p + n < base.length ∧ pA base ours (p + n) = ((u + n : Nat) : Int) ∧ pA base theirs (p + n) = ((v + n : Nat) : Int))) :
    impl_chunksOf_L12.s base ours theirs (oneL base ours).length (oneL base theirs).length p u v ((p + n : Nat) : Int) (oneL base ours) (oneL base theirs) out.length out =
      if n = 0 then some (putC out (sub_ base p (p + n)) (sub_ ours u (u + n)) (sub_ theirs v (v + n))) else
      impl_chunksOf_L7.s base ours theirs (oneL base ours).length (oneL base theirs).length ((p + n : Nat) : Int) ((u + n : Nat) : Int) ((v + n : Nat) : Int) ((p + n : Nat) : Int) (oneL base ours) (oneL base theirs) (putC out (sub_ base p (p + n)) (sub_ ours u (u + n)) (sub_ theirs v (v + n))).length (putC out (sub_ base p (p + n)) (sub_ ours u (u + n)) (sub_ theirs v (v + n))) := by
  have q1 : 0 ≤ ((p + n : Nat) : Int) ∧ ((p + n : Nat) : Int) ≤ (base.length : Int) := by omega
  have q2 : 0 ≤ ((p : Nat) : Int) ∧ ((p : Nat) : Int) ≤ ((p + n : Nat) : Int) := by omega
  have q3 : 0 ≤ ((u + n : Nat) : Int) ∧ ((u + n : Nat) : Int) ≤ (ours.length : Int) := by omega
  have q4 : 0 ≤ ((u : Nat) : Int) ∧ ((u : Nat) : Int) ≤ ((u + n : Nat) : Int) := by omega
  have q5 : 0 ≤ ((v + n : Nat) : Int) ∧ ((v + n : Nat) : Int) ≤ (theirs.length : Int) := by omega
  have q6 : 0 ≤ ((v : Nat) : Int) ∧ ((v : Nat) : Int) ≤ ((v + n : Nat) : Int) := by omega
  have s1 := sub_len base p (p + n)
  have s2 := sub_len ours u (u + n)
  have s3 := sub_len theirs v (v + n)
  have hck : impl_chunkOf.s (List.drop p (List.take (p + n) base)) (List.drop u (List.take (u + n) ours)) (List.drop v (List.take (v + n) theirs)) = some (ck (sub_ base p (p + n)) (sub_ ours u (u + n)) (sub_ theirs v (v + n))) :=
    impl_ck (sub_ base p (p + n)) (sub_ ours u (u + n)) (sub_ theirs v (v + n)) (by omega) (by omega) (by omega)
  have w0 : IntKind.i64.wrap (((p + n : Nat) : Int) - (p : Int)) = ((n : Nat) : Int) := by rw [wrap_sub (by omega) (by omega)]; congr 1; omega
  have w1 : IntKind.i64.wrap (IntKind.i64.wrap ((u : Int) + ((p + n : Nat) : Int)) - (p : Int)) = ((u + n : Nat) : Int) := by rw [wrap_add (by omega), wrap_sub (by omega) (by omega)]; congr 1; omega
  have w2 : IntKind.i64.wrap (IntKind.i64.wrap ((v : Int) + ((p + n : Nat) : Int)) - (p : Int)) = ((v + n : Nat) : Int) := by rw [wrap_add (by omega), wrap_sub (by omega) (by omega)]; congr 1; omega
  have hfin := impl_add out (sub_ base p (p + n)) (sub_ ours u (u + n)) (sub_ theirs v (v + n)) (by omega) (by omega) (by omega) (by omega)
    (fun N out' => if ((n : Nat) : Int) = (0 : Int) then some out' else impl_chunksOf_L7.s base ours theirs (oneL base ours).length (oneL base theirs).length ((p + n : Nat) : Int) ((u + n : Nat) : Int) ((v + n : Nat) : Int) ((p + n : Nat) : Int) (oneL base ours) (oneL base theirs) N out') _ rfl
  have hz : (((n : Nat) : Int) = (0 : Int)) = (n = 0) := by rw [eq_iff_iff]; omega
  simp only [hz] at hfin
  rw [impl_chunksOf_L12.e]
  simp only [w0, w1, w2, wrap_add (show u + n < 4611686018427387904 by omega), wrap_add (show v + n < 4611686018427387904 by omega), Int.toNat_natCast, oneL_len, hz] at hfin ⊢
  by_cases h1 : p + n < base.length
  · have c1 : ((p + n : Nat) : Int) < (base.length : Int) := by omega
    have c2 : 0 ≤ ((p + n : Nat) : Int) ∧ ((p + n : Nat) : Int) < ((base.length + 1 : Nat) : Int) := by omega
    rw [if_pos c1, if_pos c2, oneL_at base ours h1]
    by_cases h2 : pA base ours (p + n) = ((u + n : Nat) : Int)
    · rw [if_pos h2, if_pos c2, oneL_at base theirs h1, if_neg (fun h3 => hc ⟨h1, h2, h3⟩)]
      rw [if_pos q1, if_pos q2, if_pos q3, if_pos q4, if_pos q5, if_pos q6, hck, Option.bind_some]
      exact hfin
    · rw [if_neg h2]
      rw [if_pos q1, if_pos q2, if_pos q3, if_pos q4, if_pos q5, if_pos q6, hck, Option.bind_some]
      exact hfin
  · have c1 : ¬ ((p + n : Nat) : Int) < (base.length : Int) := by omega
    rw [if_neg c1]
    rw [if_pos q1, if_pos q2, if_pos q3, if_pos q4, if_pos q5, if_pos q6, hck, Option.bind_some]
    exact hfin
theorem impl_run_step (l1 : base.length ≤ 50000) (p u v n : Nat) (out : List T_Chunk.den) (hub : u + n ≤ 50000) (hvb : v + n ≤ 50000)
    (hc : p + n < base.length ∧ pA base ours (p + n) = ((u + n : Nat) : Int) ∧ pA base theirs (p + n) = ((v + n : Nat) : Int)) :
    impl_chunksOf_L12.s base ours theirs (oneL base ours).length (oneL base theirs).length p u v ((p + n : Nat) : Int) (oneL base ours) (oneL base theirs) out.length out =
    impl_chunksOf_L12.s base ours theirs (oneL base ours).length (oneL base theirs).length p u v ((p + n + 1 : Nat) : Int) (oneL base ours) (oneL base theirs) out.length out := by
  obtain ⟨h1, h2, h3⟩ := hc
  have c1 : ((p + n : Nat) : Int) < (base.length : Int) := by omega
  have c2 : 0 ≤ ((p + n : Nat) : Int) ∧ ((p + n : Nat) : Int) < ((base.length + 1 : Nat) : Int) := by omega
  have w1 : IntKind.i64.wrap (IntKind.i64.wrap ((u : Int) + ((p + n : Nat) : Int)) - (p : Int)) = ((u + n : Nat) : Int) := by rw [wrap_add (by omega), wrap_sub (by omega) (by omega)]; congr 1; omega
  have w2 : IntKind.i64.wrap (IntKind.i64.wrap ((v : Int) + ((p + n : Nat) : Int)) - (p : Int)) = ((v + n : Nat) : Int) := by rw [wrap_add (by omega), wrap_sub (by omega) (by omega)]; congr 1; omega
  conv => lhs; rw [impl_chunksOf_L12.e]
  simp only [w1, w2, Int.toNat_natCast, oneL_len]
  rw [if_pos c1, if_pos c2, oneL_at base ours h1, if_pos h2, if_pos c2, oneL_at base theirs h1, if_pos h3, wrap_succ (by omega)]
noncomputable def SeekS (base ours theirs : List ByteArray) (i j k q : Nat) (out : List T_Chunk.den) : Option (List T_Chunk.den) := spec_l4Chunks_L16.s base ours theirs (pA' base ours) (pA' base theirs) out.length i j k base.length q out
noncomputable def SeekI (base ours theirs : List ByteArray) (i j k q : Nat) (out : List T_Chunk.den) : Option (List T_Chunk.den) := impl_chunksOf_L7.s base ours theirs (oneL base ours).length (oneL base theirs).length i j k q (oneL base ours) (oneL base theirs) out.length out
theorem run_both (l1 : base.length ≤ 50000) (l2 : ours.length ≤ 50000) (l3 : theirs.length ≤ 50000) (t1 : TotN nb base) (t2 : TotN nb ours) (t3 : TotN nb theirs) (p u v : Nat) (out : List T_Chunk.den)
    (M : ∀ i j k out', p < i → Seek base ours theirs nb i j k out' → Res nb base.length (SeekS base ours theirs i j k i out') (SeekI base ours theirs i j k i out'))
    (ho : out.length ≤ 2 * p + 1) (hs : ∀ c ∈ out, SmallC nb c) : ∀ (e n : Nat), base.length - (p + n) = e → p + n ≤ base.length →
    (n = 0 ∧ p < base.length ∧ pA base ours p = (u : Int) ∧ pA base theirs p = (v : Int) ∨ 1 ≤ n ∧ pA base ours (p + n - 1) = ((u + n : Nat) : Int) - 1 ∧ pA base theirs (p + n - 1) = ((v + n : Nat) : Int) - 1) →
    Res nb base.length (spec_l4Chunks_L9.s base ours theirs (pA' base ours) (pA' base theirs) out.length p u v base.length n out)
      (impl_chunksOf_L12.s base ours theirs (oneL base ours).length (oneL base theirs).length p u v ((p + n : Nat) : Int) (oneL base ours) (oneL base theirs) out.length out) := by
  intro e
  induction e with
  | zero =>
    intro n he hp hn
    have hu : u + n ≤ ours.length := by
      rcases hn with ⟨h0, _, h1, _⟩ | ⟨h0, h1, _⟩
      · have := pA_rng base ours p; omega
      · have := pA_rng base ours (p + n - 1); omega
    have hv : v + n ≤ theirs.length := by
      rcases hn with ⟨h0, _, _, h1⟩ | ⟨h0, _, h1⟩
      · have := pA_rng base theirs p; omega
      · have := pA_rng base theirs (p + n - 1); omega
    have hn1 : 1 ≤ n := by omega
    have hc : ¬ (p + n < base.length ∧ pA base ours (p + n) = ((u + n : Nat) : Int) ∧ pA base theirs (p + n) = ((v + n : Nat) : Int)) := fun h => by omega
    rw [spec_run_exit l1 l2 l3 p u v n out hp hu hv (by omega) hc, impl_run_exit l1 l2 l3 p u v n out hp hu hv (by omega) hc, if_neg (by omega)]
    refine M (p + n) (u + n) (v + n) _ (by omega) ⟨hp, hu, hv, fun q hq h0 => ?_, fun q hq h0 => ?_, ?_, putC_small hs (sub_small t1 t2 t3 l1 l2 l3 _ _ _ _ _ _)⟩
    · rcases hn with ⟨h0', _⟩ | ⟨_, h1, _⟩
      · omega
      · have := pA_inc base ours (p + n - 1) q (by omega) (by omega) h0
        omega
    · rcases hn with ⟨h0', _⟩ | ⟨_, _, h1⟩
      · omega
      · have := pA_inc base theirs (p + n - 1) q (by omega) (by omega) h0
        omega
    · have := putC_len out (sub_ base p (p + n)) (sub_ ours u (u + n)) (sub_ theirs v (v + n))
      omega
  | succ e ih =>
    intro n he hp hn
    have hu : u + n ≤ ours.length := by
      rcases hn with ⟨h0, _, h1, _⟩ | ⟨h0, h1, _⟩
      · have := pA_rng base ours p; omega
      · have := pA_rng base ours (p + n - 1); omega
    have hv : v + n ≤ theirs.length := by
      rcases hn with ⟨h0, _, _, h1⟩ | ⟨h0, _, h1⟩
      · have := pA_rng base theirs p; omega
      · have := pA_rng base theirs (p + n - 1); omega
    by_cases hc : p + n < base.length ∧ pA base ours (p + n) = ((u + n : Nat) : Int) ∧ pA base theirs (p + n) = ((v + n : Nat) : Int)
    · rw [spec_run_step l1 p u v n out (by omega) (by omega) hc, impl_run_step l1 p u v n out (by omega) (by omega) hc]
      refine ih (n + 1) (by omega) (by omega) (.inr ⟨by omega, ?_, ?_⟩)
      · rw [show p + (n + 1) - 1 = p + n by omega, hc.2.1]; omega
      · rw [show p + (n + 1) - 1 = p + n by omega, hc.2.2]; omega
    · have hn1 : 1 ≤ n := by
        rcases hn with ⟨h0, h1, h2, h3⟩ | ⟨h0, _⟩
        · exfalso
          subst h0
          exact hc ⟨h1, h2, h3⟩
        · exact h0
      rw [spec_run_exit l1 l2 l3 p u v n out hp hu hv (by omega) hc, impl_run_exit l1 l2 l3 p u v n out hp hu hv (by omega) hc, if_neg (by omega)]
      refine M (p + n) (u + n) (v + n) _ (by omega) ⟨hp, hu, hv, fun q hq h0 => ?_, fun q hq h0 => ?_, ?_, putC_small hs (sub_small t1 t2 t3 l1 l2 l3 _ _ _ _ _ _)⟩
      · rcases hn with ⟨h0', _⟩ | ⟨_, h1, _⟩
        · omega
        · have := pA_inc base ours (p + n - 1) q (by omega) (by omega) h0
          omega
      · rcases hn with ⟨h0', _⟩ | ⟨_, _, h1⟩
        · omega
        · have := pA_inc base theirs (p + n - 1) q (by omega) (by omega) h0
          omega
      · have := putC_len out (sub_ base p (p + n)) (sub_ ours u (u + n)) (sub_ theirs v (v + n))
        omega
theorem seek_both (l1 : base.length ≤ 50000) (l2 : ours.length ≤ 50000) (l3 : theirs.length ≤ 50000) (t1 : TotN nb base) (t2 : TotN nb ours) (t3 : TotN nb theirs) (i j k : Nat) (out : List T_Chunk.den) (hS : Seek base ours theirs nb i j k out)
    (M : ∀ i' j k out', i < i' → Seek base ours theirs nb i' j k out' → Res nb base.length (SeekS base ours theirs i' j k i' out') (SeekI base ours theirs i' j k i' out')) :
    ∀ (e q : Nat), base.length - q = e → i ≤ q → q ≤ base.length → Res nb base.length (SeekS base ours theirs i j k q out) (SeekI base ours theirs i j k q out) := by
  intro e
  induction e with
  | zero =>
    intro q he hiq hq
    have hqe : q = base.length := by omega
    subst hqe
    have hol := hS.len
    have hj := hS.hj
    have hk := hS.hk
    have s1 := sub_len base i base.length
    have s2 := sub_len ours j ours.length
    have s3 := sub_len theirs k theirs.length
    have q1 : 0 ≤ ((i : Nat) : Int) ∧ ((i : Nat) : Int) ≤ (base.length : Int) := by omega
    have q2 : 0 ≤ ((j : Nat) : Int) ∧ ((j : Nat) : Int) ≤ (ours.length : Int) := by omega
    have q3 : 0 ≤ ((k : Nat) : Int) ∧ ((k : Nat) : Int) ≤ (theirs.length : Int) := by omega
    have c0 : ¬ (base.length : Int) < (base.length : Int) := by omega
    have hput : spec_l4Put.s out (List.drop i (List.take base.length base)) (List.drop j (List.take ours.length ours)) (List.drop k (List.take theirs.length theirs)) = some (putC out (sub_ base i base.length) (sub_ ours j ours.length) (sub_ theirs k theirs.length)) :=
      spec_put out (sub_ base i base.length) (sub_ ours j ours.length) (sub_ theirs k theirs.length) (by omega) (by omega) (by omega) (by omega)
    have hpl := putC_len out (sub_ base i base.length) (sub_ ours j ours.length) (sub_ theirs k theirs.length)
    refine ⟨putC out (sub_ base i base.length) (sub_ ours j ours.length) (sub_ theirs k theirs.length), ?_, ?_, by omega, putC_small hS.small (sub_small t1 t2 t3 l1 l2 l3 _ _ _ _ _ _)⟩
    · unfold SeekS
      rw [spec_l4Chunks_L16.e, if_neg c0, if_pos rfl, if_pos q1, if_pos q2, if_pos q3]
      simp only [Int.toNat_natCast]
      rw [hput, Option.bind_some]
    · unfold SeekI
      have hck : impl_chunkOf.s (List.drop i (List.take base.length base)) (List.drop j (List.take ours.length ours)) (List.drop k (List.take theirs.length theirs)) = some (ck (sub_ base i base.length) (sub_ ours j ours.length) (sub_ theirs k theirs.length)) :=
        impl_ck (sub_ base i base.length) (sub_ ours j ours.length) (sub_ theirs k theirs.length) (by omega) (by omega) (by omega)
      have d1 : (base.length : Int) ≤ (base.length : Int) := Int.le_refl _
      have d2 : 0 ≤ (base.length : Int) ∧ (base.length : Int) < ((base.length + 1 : Nat) : Int) := by omega
      have d3 : ¬ (ours.length : Int) < 0 := by omega
      have d4 : ¬ (theirs.length : Int) < 0 := by omega
      have d5 : 0 ≤ (base.length : Int) ∧ (base.length : Int) ≤ (base.length : Int) := by omega
      have d6 : 0 ≤ (ours.length : Int) ∧ (ours.length : Int) ≤ (ours.length : Int) := by omega
      have d7 : 0 ≤ (theirs.length : Int) ∧ (theirs.length : Int) ≤ (theirs.length : Int) := by omega
      have hfin := impl_add out (sub_ base i base.length) (sub_ ours j ours.length) (sub_ theirs k theirs.length) (by omega) (by omega) (by omega) (by omega)
        (fun N out' => if (0 ≤ (base.length : Int) ∧ (base.length : Int) < ((base.length + 1 : Nat) : Int)) then if (0 ≤ (base.length : Int) ∧ (base.length : Int) < ((base.length + 1 : Nat) : Int)) then impl_chunksOf_L12.s base ours theirs (base.length + 1) (base.length + 1) (base.length : Int) (ours.length : Int) (theirs.length : Int) (base.length : Int) (oneL base ours) (oneL base theirs) N out' else none else none) _ rfl
      rw [impl_chunksOf_L7.e]
      simp only [Int.toNat_natCast, oneL_len, oneL_end]
      rw [if_pos d1, if_pos d2, if_neg d3, if_pos d2, if_neg d4, if_pos d5, if_pos q1, if_pos d2, if_pos d6, if_pos q2, if_pos d2, if_pos d7, if_pos q3, hck, Option.bind_some]
      refine Eq.trans hfin ?_
      rw [if_pos d2, if_pos d2]
      have hx := impl_run_exit (base := base) (ours := ours) (theirs := theirs) l1 l2 l3 base.length ours.length theirs.length 0 (putC out (sub_ base i base.length) (sub_ ours j ours.length) (sub_ theirs k theirs.length)) (by omega) (by omega) (by omega) (by omega) (fun h => by omega)
      rw [if_pos rfl, oneL_len, oneL_len] at hx
      refine Eq.trans hx ?_
      have z : ∀ l : List ByteArray, (sub_ l l.length (l.length + 0)).length = 0 := fun l => by unfold sub_; simp
      unfold putC
      rw [if_pos (show (sub_ base base.length (base.length + 0)).length + (sub_ ours ours.length (ours.length + 0)).length + (sub_ theirs theirs.length (theirs.length + 0)).length = 0 by rw [z, z, z])]
  | succ e ih =>
    intro q he hiq hq
    have hq1 : q < base.length := by omega
    have hol := hS.len
    have c1 : ((q : Nat) : Int) < (base.length : Int) := by omega
    have c1' : ((q : Nat) : Int) ≤ (base.length : Int) := by omega
    have c2 : 0 ≤ ((q : Nat) : Int) ∧ ((q : Nat) : Int) < (base.length : Int) := by omega
    have c3 : 0 ≤ ((q : Nat) : Int) ∧ ((q : Nat) : Int) < ((base.length + 1 : Nat) : Int) := by omega
    have next := ih (q + 1) (by omega) (by omega) (by omega)
    by_cases hA : pA base ours q < 0
    · have e1 : SeekS base ours theirs i j k q out = SeekS base ours theirs i j k (q + 1) out := by
        unfold SeekS
        conv => lhs; rw [spec_l4Chunks_L16.e]
        simp only [Int.toNat_natCast, pA'_len]
        rw [if_pos c1, if_pos c2, pA'_at base ours hq1, if_pos hA, wrap_succ (by omega)]
      have e2 : SeekI base ours theirs i j k q out = SeekI base ours theirs i j k (q + 1) out := by
        unfold SeekI
        conv => lhs; rw [impl_chunksOf_L7.e]
        simp only [Int.toNat_natCast, oneL_len]
        rw [if_pos c1', if_pos c3, oneL_at base ours hq1, if_pos hA, wrap_succ (by omega)]
      rw [e1, e2]
      exact next
    by_cases hB : pA base theirs q < 0
    · have e1 : SeekS base ours theirs i j k q out = SeekS base ours theirs i j k (q + 1) out := by
        unfold SeekS
        conv => lhs; rw [spec_l4Chunks_L16.e]
        simp only [Int.toNat_natCast, pA'_len]
        rw [if_pos c1, if_pos c2, pA'_at base ours hq1, if_neg hA, if_pos c2, pA'_at base theirs hq1, if_pos hB, wrap_succ (by omega)]
      have e2 : SeekI base ours theirs i j k q out = SeekI base ours theirs i j k (q + 1) out := by
        unfold SeekI
        conv => lhs; rw [impl_chunksOf_L7.e]
        simp only [Int.toNat_natCast, oneL_len]
        rw [if_pos c1', if_pos c3, oneL_at base ours hq1, if_neg hA, if_pos c3, oneL_at base theirs hq1, if_pos hB, wrap_succ (by omega)]
      rw [e1, e2]
      exact next
    -- a line that both have
    obtain ⟨u, hu⟩ := Int.eq_ofNat_of_zero_le (show 0 ≤ pA base ours q by omega)
    obtain ⟨v, hv⟩ := Int.eq_ofNat_of_zero_le (show 0 ≤ pA base theirs q by omega)
    have hur := pA_rng base ours q
    have hvr := pA_rng base theirs q
    have hja := hS.ja q hiq (by omega)
    have hka := hS.ka q hiq (by omega)
    have s1 := sub_len base i q
    have s2 := sub_len ours j u
    have s3 := sub_len theirs k v
    have q0 : ¬ ((q : Nat) : Int) = (base.length : Int) := by omega
    have q1 : 0 ≤ ((q : Nat) : Int) ∧ ((q : Nat) : Int) ≤ (base.length : Int) := by omega
    have q2 : 0 ≤ ((i : Nat) : Int) ∧ ((i : Nat) : Int) ≤ ((q : Nat) : Int) := by omega
    have q3 : 0 ≤ ((u : Nat) : Int) ∧ ((u : Nat) : Int) ≤ (ours.length : Int) := by omega
    have q4 : 0 ≤ ((j : Nat) : Int) ∧ ((j : Nat) : Int) ≤ ((u : Nat) : Int) := by omega
    have q5 : 0 ≤ ((v : Nat) : Int) ∧ ((v : Nat) : Int) ≤ (theirs.length : Int) := by omega
    have q6 : 0 ≤ ((k : Nat) : Int) ∧ ((k : Nat) : Int) ≤ ((v : Nat) : Int) := by omega
    have hput : spec_l4Put.s out (List.drop i (List.take q base)) (List.drop j (List.take u ours)) (List.drop k (List.take v theirs)) = some (putC out (sub_ base i q) (sub_ ours j u) (sub_ theirs k v)) :=
      spec_put out (sub_ base i q) (sub_ ours j u) (sub_ theirs k v) (by omega) (by omega) (by omega) (by omega)
    have hck : impl_chunkOf.s (List.drop i (List.take q base)) (List.drop j (List.take u ours)) (List.drop k (List.take v theirs)) = some (ck (sub_ base i q) (sub_ ours j u) (sub_ theirs k v)) :=
      impl_ck (sub_ base i q) (sub_ ours j u) (sub_ theirs k v) (by omega) (by omega) (by omega)
    have hpl := putC_len out (sub_ base i q) (sub_ ours j u) (sub_ theirs k v)
    have hrun := run_both l1 l2 l3 t1 t2 t3 q u v (putC out (sub_ base i q) (sub_ ours j u) (sub_ theirs k v)) (fun i' j' k' out' hlt => M i' j' k' out' (by omega)) (by omega) (putC_small hS.small (sub_small t1 t2 t3 l1 l2 l3 _ _ _ _ _ _))
      (base.length - (q + 0)) 0 rfl (by omega) (.inl ⟨rfl, hq1, hu, hv⟩)
    have e1 : SeekS base ours theirs i j k q out = spec_l4Chunks_L9.s base ours theirs (pA' base ours) (pA' base theirs) (putC out (sub_ base i q) (sub_ ours j u) (sub_ theirs k v)).length q u v base.length ((0 : Nat) : Int) (putC out (sub_ base i q) (sub_ ours j u) (sub_ theirs k v)) := by
      unfold SeekS
      conv => lhs; rw [spec_l4Chunks_L16.e]
      simp only [Int.toNat_natCast, pA'_len]
      rw [if_pos c1, if_pos c2, pA'_at base ours hq1, if_neg hA, if_pos c2, pA'_at base theirs hq1, if_neg hB, if_neg q0, if_pos q1, if_pos q2, if_pos c2, hu, hv, Int.toNat_natCast, Int.toNat_natCast, if_pos q3, if_pos q4, if_pos c2, if_pos q5, if_pos q6, hput, Option.bind_some, if_pos c2, if_pos c2, spec_l4Chunks_L8.e]
      rfl
    have e2 : SeekI base ours theirs i j k q out = impl_chunksOf_L12.s base ours theirs (oneL base ours).length (oneL base theirs).length q u v ((q + 0 : Nat) : Int) (oneL base ours) (oneL base theirs) (putC out (sub_ base i q) (sub_ ours j u) (sub_ theirs k v)).length (putC out (sub_ base i q) (sub_ ours j u) (sub_ theirs k v)) := by
      unfold SeekI
      have hfin := impl_add out (sub_ base i q) (sub_ ours j u) (sub_ theirs k v) (by omega) (by omega) (by omega) (by omega)
        (fun N out' => if (0 ≤ ((q : Nat) : Int) ∧ ((q : Nat) : Int) < ((base.length + 1 : Nat) : Int)) then if (0 ≤ ((q : Nat) : Int) ∧ ((q : Nat) : Int) < ((base.length + 1 : Nat) : Int)) then impl_chunksOf_L12.s base ours theirs (base.length + 1) (base.length + 1) (q : Int) (u : Int) (v : Int) (q : Int) (oneL base ours) (oneL base theirs) N out' else none else none) _ rfl
      conv => lhs; rw [impl_chunksOf_L7.e]
      simp only [Int.toNat_natCast, oneL_len]
      rw [if_pos c1', if_pos c3, oneL_at base ours hq1, if_neg hA, if_pos c3, oneL_at base theirs hq1, if_neg hB, if_pos q1, if_pos q2, if_pos c3, hu, hv, Int.toNat_natCast, Int.toNat_natCast, if_pos q3, if_pos q4, if_pos c3, if_pos q5, if_pos q6, hck, Option.bind_some]
      refine Eq.trans hfin ?_
      rw [if_pos c3, if_pos c3]
      rfl
    rw [e1, e2]
    exact hrun
theorem main_both (l1 : base.length ≤ 50000) (l2 : ours.length ≤ 50000) (l3 : theirs.length ≤ 50000) (t1 : TotN nb base) (t2 : TotN nb ours) (t3 : TotN nb theirs) : ∀ (d i j k : Nat) (out : List T_Chunk.den), base.length - i ≤ d → Seek base ours theirs nb i j k out →
    Res nb base.length (SeekS base ours theirs i j k i out) (SeekI base ours theirs i j k i out)
  | 0, i, j, k, out, hd, hS => seek_both l1 l2 l3 t1 t2 t3 i j k out hS (fun i' j' k' out' hlt hS' => by have := hS'.hi; omega) _ i rfl (Nat.le_refl _) hS.hi
  | d + 1, i, j, k, out, hd, hS => seek_both l1 l2 l3 t1 t2 t3 i j k out hS (fun i' j' k' out' hlt hS' => main_both l1 l2 l3 t1 t2 t3 d i' j' k' out' (by omega) hS') _ i rfl (Nat.le_refl _) hS.hi
theorem chunks_both (l1 : base.length ≤ 50000) (l2 : ours.length ≤ 50000) (l3 : theirs.length ≤ 50000) (t1 : TotN nb base) (t2 : TotN nb ours) (t3 : TotN nb theirs) : Res nb base.length (spec_l4Chunks.s base ours theirs) (impl_chunksOf.s base ours theirs) := by
  have seek0 : Seek base ours theirs nb 0 0 0 [] := ⟨Nat.zero_le _, Nat.zero_le _, Nat.zero_le _, fun q _ h => by omega, fun q _ h => by omega, Nat.le_refl _, fun c hc => by cases hc⟩
  have eS : spec_l4Chunks.s base ours theirs = spec_l4Chunks_L9.s base ours theirs (pA' base ours) (pA' base theirs) ([] : List T_Chunk.den).length ((0 : Nat) : Int) ((0 : Nat) : Int) ((0 : Nat) : Int) base.length ((0 : Nat) : Int) [] := by
    rw [spec_l4Chunks.e, spec_partner base ours l1 l2, spec_partner base theirs l1 l3, Option.bind_some, Option.bind_some, spec_l4Chunks_L8.e]
    rfl
  have eI : impl_chunksOf.s base ours theirs = SeekI base ours theirs 0 0 0 0 [] := by
    have h1 : (part base.length (prs base ours)).length = base.length := part_len _ _
    have h2 : (part base.length (prs base theirs)).length = base.length := part_len _ _
    rw [impl_chunksOf.e, impl_partner base ours l1 l2, impl_partner base theirs l1 l3, Option.bind_some, Option.bind_some, fill1, fill1, if_pos (by simp [h1]; omega), if_pos (by simp [h2]; omega)]
    unfold SeekI oneL pA'
    rfl
  rw [eS, eI]
  by_cases hc : 0 < base.length ∧ pA base ours 0 = ((0 : Nat) : Int) ∧ pA base theirs 0 = ((0 : Nat) : Int)
  · obtain ⟨c1, c2, c3⟩ := hc
    have hrun := run_both l1 l2 l3 t1 t2 t3 0 0 0 [] (fun i' j' k' out' hlt hS => main_both l1 l2 l3 t1 t2 t3 base.length i' j' k' out' (by omega) hS) (by simp) (fun c hc => by cases hc) (base.length - (0 + 0)) 0 rfl (by omega) (.inl ⟨rfl, c1, c2, c3⟩)
    have e2 : SeekI base ours theirs 0 0 0 0 [] = impl_chunksOf_L12.s base ours theirs (oneL base ours).length (oneL base theirs).length ((0 : Nat) : Int) ((0 : Nat) : Int) ((0 : Nat) : Int) ((0 + 0 : Nat) : Int) (oneL base ours) (oneL base theirs) ([] : List T_Chunk.den).length [] := by
      unfold SeekI
      have z : ∀ l : List ByteArray, (sub_ l 0 0).length = 0 := fun l => by unfold sub_; simp
      have hpe : putC [] (sub_ base 0 0) (sub_ ours 0 0) (sub_ theirs 0 0) = [] := by
        unfold putC
        rw [if_pos (by rw [z, z, z])]
      have hck : impl_chunkOf.s (List.drop 0 (List.take 0 base)) (List.drop 0 (List.take 0 ours)) (List.drop 0 (List.take 0 theirs)) = some (ck (sub_ base 0 0) (sub_ ours 0 0) (sub_ theirs 0 0)) :=
        impl_ck (sub_ base 0 0) (sub_ ours 0 0) (sub_ theirs 0 0) (by rw [z]; omega) (by rw [z]; omega) (by rw [z]; omega)
      have hfin := impl_add [] (sub_ base 0 0) (sub_ ours 0 0) (sub_ theirs 0 0) (by simp) (by rw [z]; omega) (by rw [z]; omega) (by rw [z]; omega)
        (fun N out' => if (0 ≤ ((0 : Nat) : Int) ∧ ((0 : Nat) : Int) < ((base.length + 1 : Nat) : Int)) then if (0 ≤ ((0 : Nat) : Int) ∧ ((0 : Nat) : Int) < ((base.length + 1 : Nat) : Int)) then impl_chunksOf_L12.s base ours theirs (base.length + 1) (base.length + 1) ((0 : Nat) : Int) ((0 : Nat) : Int) ((0 : Nat) : Int) ((0 : Nat) : Int) (oneL base ours) (oneL base theirs) N out' else none else none) _ rfl
      have d1 : ((0 : Nat) : Int) ≤ (base.length : Int) := by omega
      have d2 : 0 ≤ ((0 : Nat) : Int) ∧ ((0 : Nat) : Int) < ((base.length + 1 : Nat) : Int) := by omega
      have d3 : ¬ ((0 : Nat) : Int) < 0 := by omega
      have d4 : 0 ≤ ((0 : Nat) : Int) ∧ ((0 : Nat) : Int) ≤ (base.length : Int) := by omega
      have d5 : 0 ≤ ((0 : Nat) : Int) ∧ ((0 : Nat) : Int) ≤ ((0 : Nat) : Int) := by omega
      have d6 : 0 ≤ ((0 : Nat) : Int) ∧ ((0 : Nat) : Int) ≤ (ours.length : Int) := by omega
      have d7 : 0 ≤ ((0 : Nat) : Int) ∧ ((0 : Nat) : Int) ≤ (theirs.length : Int) := by omega
      conv => lhs; rw [impl_chunksOf_L7.e]
      simp only [Int.toNat_natCast, oneL_len]
      rw [if_pos d1, if_pos d2, oneL_at base ours c1, c2, if_neg d3, if_pos d2, oneL_at base theirs c1, c3, if_neg d3, if_pos d4, if_pos d5, if_pos d2, if_pos d6, if_pos d5, if_pos d2, if_pos d7, if_pos d5, Int.toNat_natCast, hck, Option.bind_some]
      refine Eq.trans hfin ?_
      rw [if_pos d2, if_pos d2, hpe]
    rw [e2]
    exact hrun
  · have z : ∀ l : List ByteArray, (sub_ l 0 (0 + 0)).length = 0 := fun l => by unfold sub_; simp
    have hx := spec_run_exit (base := base) (ours := ours) (theirs := theirs) l1 l2 l3 0 0 0 0 [] (by omega) (by omega) (by omega) (by simp) (by simpa using hc)
    have hpe : putC [] (sub_ base 0 (0 + 0)) (sub_ ours 0 (0 + 0)) (sub_ theirs 0 (0 + 0)) = [] := by
      unfold putC
      rw [if_pos (by rw [z, z, z])]
    rw [hpe] at hx
    rw [hx]
    exact main_both l1 l2 l3 t1 t2 t3 base.length 0 0 0 [] (by omega) seek0
end
end Go.Proofs.YtmojilihllhadaaGreatDoor.Ev
