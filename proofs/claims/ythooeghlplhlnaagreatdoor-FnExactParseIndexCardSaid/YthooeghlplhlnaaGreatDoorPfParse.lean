/- Lines with their line feeds: the parts of ParseIndex, both ways. -/
import Derived.Test.YthooeghlplhlnaaGreatDoorPfWords
import Derived.Test.YthooeghlplhlnaaGreatDoorPfIndex
import Derived.Test.YthooeghlplhlnaaGreatDoorPfDigest
import Derived.Test.YthooeghlplhlnaaGreatDoorPfLines
set_option linter.unusedVariables false
set_option linter.unusedSimpArgs false
namespace Go.Proofs.YthooeghlplhlnaaGreatDoor.Ev
open Go

theorem unline_nil : spec_l6Unline.s (ba []) = some (noS, false) := by
  rw [spec_l6Unline.e, if_pos (by rw [ba_size]; rfl)]
theorem unline_snoc (E : List UInt8) (b : UInt8) (h : E.length < 2000000) : spec_l6Unline.s (ba (E ++ [b])) = some (if b = 10 then (ba E, true) else (noS, false)) := by
  have hsz : (ba (E ++ [b])).size = E.length + 1 := by rw [ba_size]; simp
  have hb : byteAt (ba (E ++ [b])) E.length = ((b.toNat : Nat) : Int) := by
    rw [ba_byte (by simp)]; simp
  have hw : IntKind.i64.wrap (((ba (E ++ [b])).size : Int) - 1) = ((E.length : Nat) : Int) := by rw [hsz, wrap_pred (by omega) (by omega)]; simp
  rw [spec_l6Unline.e, if_neg (by omega)]
  simp only [hw]
  rw [if_pos (by omega), Int.toNat_natCast, hb]
  have hc : (((b.toNat : Nat) : Int) = 10) ↔ b = 10 := byte_eqc b 10
  by_cases h10 : b = 10
  · rw [if_pos (hc.2 h10), if_pos (by omega), if_pos h10, ba_extract]
    simp
  · rw [if_neg (fun e => h10 (hc.1 e)), if_neg h10]

def lf : ByteArray := ByteArray.mk #[(10 : UInt8)]
theorem lf_size : (lf.size : Int) = 1 := rfl
theorem hasSuf_nil : stringslite_HasSuffix.s (ba []) lf = some false := by
  rw [stringslite_HasSuffix.e, if_neg (by rw [ba_size, lf_size]; simp)]
theorem hasSuf_snoc (E : List UInt8) (b : UInt8) (h : E.length < 2000000) : stringslite_HasSuffix.s (ba (E ++ [b])) lf = some (b == 10) := by
  have hsz : (ba (E ++ [b])).size = E.length + 1 := by rw [ba_size]; simp
  have hw : IntKind.i64.wrap (((ba (E ++ [b])).size : Int) - (lf.size : Int)) = ((E.length : Nat) : Int) := by rw [lf_size, hsz, wrap_pred (by omega) (by omega)]; simp
  rw [stringslite_HasSuffix.e, if_pos (by rw [lf_size]; omega)]
  simp only [hw]
  rw [if_pos (by omega), Int.toNat_natCast, hsz, ba_extract, ba_toList]
  have : ((E ++ [b]).drop E.length).take (E.length + 1 - E.length) = [b] := by simp
  rw [this]
  show some ([b] == lf.toList) = _
  rw [show lf.toList = [10] from ba_toList [10]]
  simp

theorem isWhole_nil : impl_isWhole.s (ba []) = some false := by
  rw [impl_isWhole.e, strings_HasSuffix.e]
  show Option.bind (Option.bind (stringslite_HasSuffix.s (ba []) lf) _) _ = _
  rw [hasSuf_nil]; rfl
theorem isWhole_snoc (E : List UInt8) (b : UInt8) (h : E.length < 2000000) : impl_isWhole.s (ba (E ++ [b])) = some (b == 10) := by
  rw [impl_isWhole.e, strings_HasSuffix.e]
  show Option.bind (Option.bind (stringslite_HasSuffix.s (ba (E ++ [b])) lf) _) _ = _
  rw [hasSuf_snoc E b h]; rfl
theorem cut_size (E : List UInt8) (b : UInt8) (h : E.length < 2000000) : IntKind.i64.wrap (((ba (E ++ [b])).size : Int) - (lf.size : Int)) = ((E.length : Nat) : Int) := by
  rw [lf_size, ba_size, List.length_append, List.length_singleton, wrap_pred (by omega) (by omega)]; simp
theorem trimSuf_nil : strings_TrimSuffix.s (ba []) lf = some (ba []) := by
  rw [strings_TrimSuffix.e, stringslite_TrimSuffix.e, hasSuf_nil]; rfl
theorem trimSuf_snoc (E : List UInt8) (b : UInt8) (h : E.length < 2000000) : strings_TrimSuffix.s (ba (E ++ [b])) lf = some (ba (if b = 10 then E else E ++ [b])) := by
  rw [strings_TrimSuffix.e, stringslite_TrimSuffix.e, hasSuf_snoc E b h, Option.bind_some, cut_size E b h, Int.toNat_natCast, ba_extract]
  by_cases hb : b = 10
  · have h1 : ((b == 10) = true) := beq_iff_eq.2 hb
    rw [if_pos h1, if_pos (by rw [ba_size, List.length_append, List.length_singleton]; omega), if_pos hb]
    simp
  · have h1 : ¬ ((b == 10) = true) := fun e => hb (beq_iff_eq.1 e)
    rw [if_neg h1, if_neg hb]; rfl
theorem cutSuf_nil : strings_CutSuffix.s (ba []) lf = some (ba [], false) := by
  rw [strings_CutSuffix.e, stringslite_CutSuffix.e, hasSuf_nil]; rfl
theorem cutSuf_snoc (E : List UInt8) (b : UInt8) (h : E.length < 2000000) : strings_CutSuffix.s (ba (E ++ [b])) lf = some (if b = 10 then (ba E, true) else (ba (E ++ [b]), false)) := by
  rw [strings_CutSuffix.e, stringslite_CutSuffix.e, hasSuf_snoc E b h, Option.bind_some, cut_size E b h, Int.toNat_natCast, ba_extract]
  by_cases hb : b = 10
  · have h1 : ((b == 10) = true) := beq_iff_eq.2 hb
    rw [if_pos h1, if_pos (by rw [ba_size, List.length_append, List.length_singleton]; omega), if_pos hb]
    simp
  · have h1 : ¬ ((b == 10) = true) := fun e => hb (beq_iff_eq.1 e)
    rw [if_neg h1, if_neg hb]; rfl

/-! #### the sum's line -/
def sumW : List UInt8 := [115, 117, 109, 32]
def sumT : ByteArray := ByteArray.mk #[(115 : UInt8), (117 : UInt8), (109 : UInt8), (32 : UInt8)]
theorem sumT_size : sumT.size = 4 := rfl
theorem sumT_toList : sumT.toList = sumW := ba_toList _
theorem cutPre (D : List UInt8) (h : D.length < 2000000) : strings_CutPrefix.s (ba D) sumT = some (if D.take 4 = sumW then (ba (D.drop 4), true) else (ba D, false)) := by
  have e4 : ((sumT.size : Nat) : Int).toNat = 4 := rfl
  have hpre : stringslite_HasPrefix.s (ba D) sumT = some (D.take 4 == sumW) := by
    rw [stringslite_HasPrefix.e]
    by_cases h4 : 4 ≤ D.length
    · rw [if_pos (by rw [ba_size, sumT_size]; omega), if_pos (by rw [ba_size, sumT_size]; omega), e4, ba_extract, ba_toList, sumT_toList]
      rfl
    · rw [if_neg (by rw [ba_size, sumT_size]; omega)]
      have : ¬ D.take 4 = sumW := fun e => by
        have := congrArg List.length e
        rw [List.length_take] at this
        have h5 : sumW.length = 4 := rfl
        omega
      rw [beq_eq_false_iff_ne.2 this]
  rw [strings_CutPrefix.e, stringslite_CutPrefix.e, hpre, Option.bind_some, e4]
  by_cases hp : D.take 4 = sumW
  · have h4 : 4 ≤ D.length := by
      have := congrArg List.length hp
      rw [List.length_take] at this
      have h5 : sumW.length = 4 := rfl
      omega
    have h1 : (D.take 4 == sumW) = true := beq_iff_eq.2 hp
    rw [if_pos h1, if_pos (by rw [ba_size, sumT_size]; omega), if_pos hp, ba_size, ba_extract]
    rw [List.take_of_length_le (by simp)]; rfl
  · have h1 : ¬ (D.take 4 == sumW) = true := fun e => hp (beq_iff_eq.1 e)
    rw [if_neg h1, if_neg hp]; rfl
def digL : List UInt8 := [48, 49, 50, 51, 52, 53, 54, 55, 56, 57]
def dgt (b : UInt8) : Bool := decide (48 ≤ (b.toNat : Int)) && decide ((b.toNat : Int) ≤ 57)
theorem dg_fin : ∀ n : _root_.Fin 256, digL.contains (UInt8.ofNat n.val) = dgt (UInt8.ofNat n.val) := by decide +kernel
theorem dg_cut (b : UInt8) : digL.contains b = dgt b := by
  have := dg_fin ⟨b.toNat, b.toNat_lt⟩
  simpa using this
def digC : ByteArray := ByteArray.mk #[(48 : UInt8), (49 : UInt8), (50 : UInt8), (51 : UInt8), (52 : UInt8), (53 : UInt8), (54 : UInt8), (55 : UInt8), (56 : UInt8), (57 : UInt8)]
theorem trim_dig (l : List UInt8) : ((trimB (ba l) digC).toList == noS.toList) = l.all dgt := by
  rw [Bool.eq_iff_iff, beq_iff_eq, noS_toList]
  have e : (trimB (ba l) digC).toList = Go.Lib.trimS l digL := ba_toList _
  rw [e, trim_nil]
  simp only [dg_cut]
/-- the line behind the word, by its form -/
def isDs (l : List UInt8) : Bool := decide (1 ≤ l.length) && decide (l.length ≤ 5) && l.all dgt
theorem sum_L5 (D : List UInt8) (hD : D.length < 2000000) : ∀ (k i : Nat), i + k = D.length → spec_l10Sum_L5.s (ba D) i = some ((D.drop i).all dgt)
  | 0, i, h => by rw [spec_l10Sum_L5.e, if_neg (by rw [ba_size]; omega), List.drop_eq_nil_of_le (by omega)]; rfl
  | k + 1, i, h => by
    have hi : i < D.length := by omega
    have c1 : ((i : Nat) : Int) < ((ba D).size : Int) := by rw [ba_size]; omega
    have c2 : 0 ≤ ((i : Nat) : Int) ∧ ((i : Nat) : Int) < ((ba D).size : Int) := by rw [ba_size]; omega
    rw [spec_l10Sum_L5.e, if_pos c1, if_pos c2]
    simp only [if_pos c2]
    rw [wrap_succ (by omega), sum_L5 D hD k (i + 1) (by omega), Int.toNat_natCast, ba_byte hi, List.drop_eq_getElem_cons hi, List.all_cons]
    unfold dgt
    by_cases h1 : ((D[i].toNat : Nat) : Int) < 48
    · rw [if_pos h1, decide_eq_false (by omega)]; rfl
    · rw [if_neg h1, decide_eq_true (show (48 : Int) ≤ _ by omega)]
      by_cases h2 : ((D[i].toNat : Nat) : Int) > 57
      · rw [if_pos h2, decide_eq_false (by omega)]; rfl
      · rw [if_neg h2, decide_eq_true (show _ ≤ (57 : Int) by omega)]; rfl
def sum3 : ByteArray := ByteArray.mk #[(115 : UInt8), (117 : UInt8), (109 : UInt8)]
theorem after_sum (E : List UInt8) (h : E.length < 2000000) : spec_l6After.s (ba E) sum3 = some (if E.take 4 = sumW then (ba (E.drop 4), true) else (noS, false)) := by
  have w4 : IntKind.i64.wrap ((sum3.size : Int) + 1) = ((4 : Nat) : Int) := by decide
  rw [spec_l6After.e, w4]
  by_cases h4 : 4 ≤ E.length
  · rw [if_neg (by rw [ba_size]; omega), if_pos (by rw [ba_size]; omega), if_pos (by decide), Int.toNat_natCast, ba_extract]
    have hs : sum3 ++ ByteArray.mk #[(32 : UInt8)] = ba sumW := by rw [show sum3 = ba [115, 117, 109] from rfl, show ByteArray.mk #[(32 : UInt8)] = ba [32] from rfl, ba_append]; rfl
    have hc : (ba ((E.drop 0).take (4 - 0)) = ba sumW) ↔ E.take 4 = sumW := by
      constructor
      · intro e
        have := congrArg (fun x : ByteArray => x.data.toList) e
        exact this
      · intro e
        show ba (E.take 4) = _
        rw [e]
    rw [hs]
    by_cases hp : E.take 4 = sumW
    · rw [if_pos (hc.2 hp), if_pos hp, if_pos (by rw [ba_size]; omega), ba_size, ba_extract, List.take_of_length_le (by simp)]
    · rw [if_neg (fun e => hp (hc.1 e)), if_neg hp]
  · rw [if_pos (by rw [ba_size]; omega), if_neg (fun e => by
      have := congrArg List.length e
      rw [List.length_take] at this
      have h5 : sumW.length = 4 := rfl
      omega)]
def isSum (E : List UInt8) : Bool := E.take 4 == sumW && isDs (E.drop 4)
theorem spec_sum (E : List UInt8) (h : E.length < 2000000) : spec_l10Sum.s (ba E) = some (isSum E) := by
  rw [spec_l10Sum.e]
  have := after_sum E h
  unfold sum3 at this
  rw [this, Option.bind_some]
  unfold isSum
  by_cases hp : E.take 4 = sumW
  · rw [if_pos hp, if_pos rfl, beq_iff_eq.2 hp, Bool.true_and]
    unfold isDs
    by_cases h1 : (E.drop 4).length < 1
    · rw [if_pos (by rw [ba_size]; omega), decide_eq_false (by omega)]; rfl
    · rw [if_neg (by rw [ba_size]; omega), decide_eq_true (show 1 ≤ _ by omega)]
      by_cases h2 : (E.drop 4).length > 5
      · rw [if_pos (by rw [ba_size]; omega), decide_eq_false (by omega)]; rfl
      · rw [if_neg (by rw [ba_size]; omega), decide_eq_true (show _ ≤ 5 by omega)]
        have := sum_L5 (E.drop 4) (by simp; omega) (E.drop 4).length 0 (by omega)
        exact this
  · rw [if_neg hp, if_neg (by decide), beq_eq_false_iff_ne.2 hp]; rfl
/-- the last line, with its line feed, by its form -/
def isSumL (D : List UInt8) : Bool := D.take 4 == sumW && ((D.drop 4).getLast? == some 10 && isDs (D.drop 4).dropLast)
theorem impl_sum (D : List UInt8) (h : D.length < 2000000) : impl_isSumLine.s (ba D) = some (isSumL D) := by
  rw [impl_isSumLine.e]
  have := cutPre D h
  unfold sumT at this
  rw [this, Option.bind_some]
  have key : ∀ (R : List UInt8), R.length < 2000000 → strings_CutSuffix.s (ba R) (ByteArray.mk #[(10 : UInt8)]) = some (if R.getLast? = some 10 then (ba R.dropLast, true) else (ba R, false)) := by
    intro R hR
    show strings_CutSuffix.s (ba R) lf = _
    rcases List.eq_nil_or_concat R with rfl | ⟨E, b, hE⟩
    · rw [cutSuf_nil]; rfl
    · rw [List.concat_eq_append] at hE
      subst hE
      rw [cutSuf_snoc E b (by simp at hR; omega)]
      simp
  unfold isSumL
  by_cases hp : D.take 4 = sumW
  · rw [if_pos hp, beq_iff_eq.2 hp, Bool.true_and, key _ (by simp; omega), Option.bind_some]
    by_cases hl : (D.drop 4).getLast? = some 10
    · rw [if_pos hl, if_pos rfl, if_pos rfl, beq_iff_eq.2 hl, Bool.true_and]
      unfold isDs
      have hsz : (ba (D.drop 4).dropLast).size = (D.drop 4).dropLast.length := ba_size _
      generalize (D.drop 4).dropLast = R at hsz
      dsimp only
      by_cases h1 : 1 ≤ R.length
      · rw [if_pos (by omega), decide_eq_true h1]
        by_cases h2 : R.length ≤ 5
        · rw [if_pos (by omega), if_pos (by omega), decide_eq_true h2]
          have := trim_dig R
          unfold digC at this
          rw [this]; rfl
        · rw [if_neg (by omega), decide_eq_false h2]; rfl
      · rw [if_neg (by omega), decide_eq_false h1]; rfl
    · rw [if_neg hl, if_pos rfl, if_neg (fun e => by cases e), beq_eq_false_iff_ne.2 hl]; rfl
  · rw [if_neg hp, key D h, Option.bind_some, if_neg (fun e => by cases e), beq_eq_false_iff_ne.2 hp]; rfl
theorem isSumL_snoc (E : List UInt8) : isSumL (E ++ [10]) = isSum E := by
  unfold isSumL isSum
  by_cases h4 : 4 ≤ E.length
  · rw [List.take_append_of_le_length h4, List.drop_append_of_le_length h4]
    simp
  · have hn : (E ++ [10]).take 4 ≠ sumW := fun e => by
      have hl := congrArg List.length e
      rw [List.length_take] at hl
      have h5 : sumW.length = 4 := rfl
      have h3 : E.length = 3 := by simp at hl; omega
      have hg := congrArg List.getLast? e
      rw [List.take_of_length_le (by simp; omega)] at hg
      simp [sumW] at hg
    have hm : E.take 4 ≠ sumW := fun e => by
      have hl := congrArg List.length e
      rw [List.length_take] at hl
      have h5 : sumW.length = 4 := rfl
      omega
    rw [beq_eq_false_iff_ne.2 hn, beq_eq_false_iff_ne.2 hm]; rfl
theorem isSumL_lf {D : List UInt8} (h : isSumL D = true) : D.getLast? = some 10 ∧ (10 : UInt8) ∉ D.dropLast := by
  unfold isSumL at h
  rw [Bool.and_eq_true, Bool.and_eq_true, beq_iff_eq, beq_iff_eq] at h
  obtain ⟨h1, h2, h3⟩ := h
  have hD : D = sumW ++ (D.drop 4).dropLast ++ [10] := by
    conv => lhs; rw [← List.take_append_drop 4 D, h1]
    rcases List.eq_nil_or_concat (D.drop 4) with he | ⟨E, b, hE⟩
    · rw [he] at h2; cases h2
    · rw [List.concat_eq_append] at hE
      rw [hE] at h2 ⊢
      simp at h2
      subst h2
      simp
  unfold isDs at h3
  rw [Bool.and_eq_true, List.all_eq_true] at h3
  rw [hD]
  refine ⟨by simp, ?_⟩
  rw [List.dropLast_concat, List.mem_append]
  rintro (hm | hm)
  · simp [sumW] at hm
  · have := h3.2 _ hm
    simp [dgt] at this
end Go.Proofs.YthooeghlplhlnaaGreatDoor.Ev
