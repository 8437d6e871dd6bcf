/- The words of a line: both ways. (A copy of the paths' part of PfPath, at byte 32.) -/
import Derived.Test.YthooeghlplhlnaaGreatDoorPfOrd
set_option linter.unusedVariables false
set_option linter.unusedSimpArgs false
namespace Go.Proofs.YthooeghlplhlnaaGreatDoor.Ev
open Go

/-! #### the words of a line -/
def wds : List UInt8 → List UInt8 → List (List UInt8)
  | cur, [] => [cur]
  | cur, b :: r => match b == 32 with
    | true => cur :: wds [] r
    | false => wds (cur ++ [b]) r
def wordsL (s : ByteArray) : List ByteArray := (wds [] s.data.toList).map ba
theorem wds_len : ∀ (l cur : List UInt8), (wds cur l).length = l.count 32 + 1
  | [], _ => rfl
  | b :: r, cur => by
    simp only [wds]
    cases hb : (b == 32) with
    | true => simp only [List.length_cons, wds_len r]; rw [List.count_cons, hb]; simp
    | false => simp only [wds_len r]; rw [List.count_cons, hb]; simp
theorem wordsL_len (s : ByteArray) : (wordsL s).length ≤ s.size + 1 := by
  unfold wordsL
  rw [List.length_map, wds_len, Go.Lib.size_eq s]
  have := List.count_le_length (a := (32 : UInt8)) (l := s.data.toList)
  omega
theorem idx32 : ∀ (l : List UInt8), (Go.Lib.indexByte l 32 = -1 ∧ l.count 32 = 0 ∧ ∀ cur, wds cur l = [cur ++ l]) ∨
    ∃ k : Nat, Go.Lib.indexByte l 32 = (k : Int) ∧ k < l.length ∧ (∀ cur, wds cur l = (cur ++ l.take k) :: wds [] (l.drop (k + 1))) ∧ l.count 32 = (l.drop (k + 1)).count 32 + 1
  | [] => .inl ⟨rfl, rfl, fun cur => by simp [wds]⟩
  | b :: r => by
    cases hb : (b == 32) with
    | true =>
      refine .inr ⟨0, by simp [Go.Lib.indexByte, hb], by simp, fun cur => by simp [wds, hb], ?_⟩
      rw [List.count_cons, hb]; simp
    | false =>
      rcases idx32 r with ⟨h1, h2, h3⟩ | ⟨k, h1, h2, h3, h4⟩
      · refine .inl ⟨by simp [Go.Lib.indexByte, hb, h1], by rw [List.count_cons, hb, h2]; rfl, fun cur => by simp [wds, hb, h3]⟩
      · refine .inr ⟨k + 1, ?_, by simpa using h2, fun cur => by simp [wds, hb, h3], ?_⟩
        · have hne : ((k : Int) == -1) = false := by rw [beq_eq_false_iff_ne]; omega
          simp only [Go.Lib.indexByte, hb, h1, hne, Bool.false_eq_true, if_false]; omega
        · rw [List.count_cons, hb, h4]; simp

theorem byte_eq32 (c : UInt8) : ((c.toNat : Int) = 32) ↔ (c == 32) = true := by
  rw [beq_iff_eq]
  constructor
  · intro h; exact UInt8.toNat_inj.1 (by show c.toNat = 32; omega)
  · rintro rfl; rfl
theorem words_L4 (D : List UInt8) (hD : D.length ≤ 1048576) : ∀ (k from_ i : Nat) (m : List ByteArray), i + k = D.length → from_ ≤ i → m.length ≤ i →
    spec_l6Split_L4.s (ba D) m.length (from_ : Int) (i : Int) m = some (m ++ (wds ((D.drop from_).take (i - from_)) (D.drop i)).map ba)
  | 0, from_, i, m, hk, hf, hm => by
    have hi : i = D.length := by omega
    rw [spec_l6Split_L4.e]
    simp (disch := omega) only [if_pos, ba_size, fill1, List.length_cons, List.length_nil, wrap_succ, Int.toNat_natCast, ba_extract]
    rw [spec_l6Split_L4.e, if_neg (by rw [ba_size]; omega), List.drop_eq_nil_of_le (by omega : D.length ≤ i)]
    rfl
  | k + 1, from_, i, m, hk, hf, hm => by
    have hi : i < D.length := by omega
    have hcur : (D.drop from_).take (i + 1 - from_) = (D.drop from_).take (i - from_) ++ [D[i]] := by
      rw [show i + 1 - from_ = (i - from_) + 1 by omega, List.take_succ_eq_append_getElem (by simp; omega)]
      simp only [List.getElem_drop]
      congr 3
      omega
    rw [List.drop_eq_getElem_cons hi]
    simp only [wds]
    rw [spec_l6Split_L4.e]
    simp (disch := omega) only [if_pos, if_neg, ba_size, fill1, List.length_cons, List.length_nil, wrap_succ, Int.toNat_natCast, ba_extract, ba_byte hi]
    cases hc : (D[i] == 32) with
    | true =>
      rw [if_pos ((byte_eq32 _).2 hc)]
      have := words_L4 D hD k (i + 1) (i + 1) (m ++ [ba ((D.drop from_).take (i - from_))]) (by omega) (by omega) (by simp; omega)
      rw [this]
      simp
    | false =>
      rw [if_neg (fun h => by have := (byte_eq32 _).1 h; rw [hc] at this; cases this)]
      rw [words_L4 D hD k from_ (i + 1) m (by omega) (by omega) (by omega), hcur]
theorem spec_words (s : ByteArray) (h : s.size ≤ 1048576) : spec_l6Split.s s = some (wordsL s) := by
  rw [spec_l6Split.e]
  have := words_L4 s.data.toList (by rw [← Go.Lib.size_eq]; exact h) s.data.toList.length 0 0 [] (by omega) (by omega) (by simp)
  rw [ba_self] at this
  simpa [wordsL] using this

def sp_ : ByteArray := ByteArray.mk #[(32 : UInt8)]
theorem sp_ne : sp_ ≠ noS := fun h => by
  have := congrArg ByteArray.size h
  cases this
theorem sp_size : (sp_.size : Int) = 1 := rfl
theorem count_sp (l : List UInt8) : strings_Count.s (ba l) sp_ = some ((l.count 32 : Nat) : Int) := by
  rw [strings_Count.e, if_neg (by decide), if_pos (by decide), if_pos (by decide)]; rfl
theorem index_sp (l : List UInt8) : strings_Index.s (ba l) sp_ = some (Go.Lib.indexByte l 32) := by
  rw [strings_Index.e, stringslite_Index.e, if_neg (by decide)]
  by_cases h : sp_ = ba l
  · have hl : l = [32] := by
      have := congrArg (fun x : ByteArray => x.data.toList) h
      exact this.symm
    subst hl
    rw [if_pos h]; rfl
  · rw [if_neg h, if_pos (by decide), if_pos (by decide), stringslite_IndexByte.e]; rfl

theorem split32 : ∀ (c i : Nat) (r : List UInt8) (a : List ByteArray), i + r.length ≤ 1048577 → r.count 32 = c → a.length = i + c + 1 →
    strings_genSplit_L11.s (ba r) sp_ 0 ((i + c : Nat) : Int) (i + c + 1) (i : Int) a = some (a.take i ++ (wds [] r).map ba)
  | 0, i, r, a, hr, hc, ha => by
    rcases idx32 r with ⟨_, _, h3⟩ | ⟨k, _, _, _, h4⟩
    · rw [strings_genSplit_L11.e]
      simp (disch := omega) only [if_pos, if_neg, wrap_succ, Int.toNat_natCast]
      rw [List.drop_zero, Nat.sub_zero, take_set (by omega), h3]
      rfl
    · omega
  | c + 1, i, r, a, hr, hc, ha => by
    rcases idx32 r with ⟨_, h2, _⟩ | ⟨k, h1, h2, h3, h4⟩
    · omega
    · have hd : (r.drop (k + 1)).take (r.length - (k + 1)) = r.drop (k + 1) := List.take_of_length_le (by simp)
      rw [strings_genSplit_L11.e]
      simp (disch := omega) only [if_pos, if_neg, wrap_succ, Int.toNat_natCast, index_sp, Option.bind_some, h1, sp_size, ba_size, Int.add_zero, wrap_nat, ba_extract, List.drop_zero, Nat.sub_zero, hd]
      have := split32 c (i + 1) (r.drop (k + 1)) (a.set i (ba (r.take k))) (by simp; omega) (by omega) (by simp; omega)
      rw [take_set (by omega)] at this
      rw [show i + 1 + c = i + (c + 1) by omega] at this
      rw [this, h3, List.nil_append, List.map_cons]
      simp
theorem impl_words (s : ByteArray) (h : s.size ≤ 1048576) : strings_Split.s s (ByteArray.mk #[(32 : UInt8)]) = some (wordsL s) := by
  show strings_Split.s s sp_ = _
  have hcl : s.data.toList.count 32 ≤ s.data.toList.length := List.count_le_length
  have hsz : s.size = s.data.toList.length := Go.Lib.size_eq s
  unfold wordsL
  generalize hD : s.data.toList = D at hcl hsz
  have hs : s = ba D := by rw [← hD, ba_self]
  subst hs
  have hw1 : IntKind.i64.wrap (((ba D).size : Int) + 1) = ((D.length + 1 : Nat) : Int) := by rw [ba_size]; exact wrap_succ (by omega)
  have hw2 : IntKind.i64.wrap (((D.count 32 : Nat) : Int) + 1) = ((D.count 32 + 1 : Nat) : Int) := wrap_succ (by omega)
  have hif : (if ((D.length + 1 : Nat) : Int) < ((D.count 32 + 1 : Nat) : Int) then ((D.length + 1 : Nat) : Int) else ((D.count 32 + 1 : Nat) : Int)) = ((D.count 32 + 1 : Nat) : Int) := if_neg (by omega)
  rw [strings_Split.e, strings_genSplit.e, if_neg (by omega), if_neg sp_ne, if_pos (by omega), count_sp, Option.bind_some]
  simp only [hw1, hw2, hif]
  rw [if_pos (by omega)]
  have hw3 : IntKind.i64.wrap (((D.count 32 + 1 : Nat) : Int) - 1) = ((0 + D.count 32 : Nat) : Int) := by rw [wrap_pred (by omega) (by omega)]; congr 1; omega
  rw [hw3, Int.toNat_natCast, List.length_replicate]
  have := split32 (D.count 32) 0 D (List.replicate (D.count 32 + 1) noS) (by omega) rfl (by simp)
  simp only [List.take_zero, List.nil_append] at this
  rw [show 0 + D.count 32 + 1 = D.count 32 + 1 by omega] at this
  have this : strings_genSplit_L11.s (ba D) sp_ 0 ((0 + D.count 32 : Nat) : Int) (D.count 32 + 1) (0 : Int) (List.replicate (D.count 32 + 1) noS) = _ := this
  rw [this]; rfl

end Go.Proofs.YthooeghlplhlnaaGreatDoor.Ev
