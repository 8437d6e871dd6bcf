/- The text of entries: both ways, and that a line's entry gives the line back. -/
import Derived.Test.YthooeghlplhlnaaGreatDoorPfParse2
set_option linter.unusedVariables false
set_option linter.unusedSimpArgs false
namespace Go.Proofs.YthooeghlplhlnaaGreatDoor.Ev
open Go

/-! #### numbers in words -/
theorem decB_nat (k : Nat) : decB (k : Int) = ba (Go.Lib.decDigits k) := by
  unfold decB Go.Lib.itoa
  rw [if_neg (by omega)]
  simp [ba]
theorem dig_wrap {k : Nat} (h : k < 10) : bytesStr (fillElems [((0 : Nat), IntKind.u8.wrap (IntKind.i64.wrap ((48 : Int) + (k : Int))))] (List.replicate (1 : Nat) (0 : Int))) = ba [UInt8.ofNat (48 + k)] := by
  have : k = 0 ∨ k = 1 ∨ k = 2 ∨ k = 3 ∨ k = 4 ∨ k = 5 ∨ k = 6 ∨ k = 7 ∨ k = 8 ∨ k = 9 := by omega
  rcases this with rfl | rfl | rfl | rfl | rfl | rfl | rfl | rfl | rfl | rfl <;> rfl
theorem digits_all (k : Nat) : k < 1000000 → spec_l3Digits.s (k : Int) = some (ba (Go.Lib.decDigits k)) ∧ (Go.Lib.decDigits k).length ≤ k + 1 := by
  induction k using Nat.strongRecOn with
  | _ k ih =>
    intro hk
    rw [spec_l3Digits.e, Go.Lib.decDigits]
    by_cases h : k < 10
    · rw [if_pos (by omega), dif_pos h, dig_wrap h]
      exact ⟨rfl, by simp⟩
    · rw [if_neg (by omega), dif_neg h]
      have e1 : (k : Int).tdiv 10 = ((k / 10 : Nat) : Int) := by rw [Int.tdiv_eq_ediv_of_nonneg (by omega)]; omega
      have e2 : (k : Int).tmod 10 = ((k % 10 : Nat) : Int) := by rw [Int.tmod_eq_emod_of_nonneg (by omega)]; omega
      obtain ⟨q1, q2⟩ := ih (k / 10) (by omega) (by omega)
      rw [e1, e2, wrap_nat (by omega), q1, Option.bind_some, dig_wrap (by omega), ba_append]
      refine ⟨?_, by simp; omega⟩
      rw [if_pos]
      rw [ba_size, ba_size]
      simp only [List.length_cons, List.length_nil]
      omega

/-! #### an entry's line -/
@[reducible] def mde (x : T_Entry.den) : Int := x.2.2.1
@[reducible] def eid (x : T_Entry.den) : ByteArray := x.2.2.2.1
@[reducible] def epa (x : T_Entry.den) : ByteArray := x.1
def wordOf (m : Int) : List UInt8 := if m = 1 then fileW else runW
def entT (e : T_Entry.den) : List UInt8 := Go.Lib.decDigits (stg e).toNat ++ [32] ++ wordOf (mde e) ++ [32] ++ (eid e).data.toList ++ [32] ++ (epa e).data.toList ++ [10]
structure GoodE (e : T_Entry.den) : Prop where
  st0 : 0 ≤ stg e
  st3 : stg e ≤ 3
  md : mde e = 1 ∨ mde e = 2
theorem dec_small {k : Nat} (h : k < 10) : Go.Lib.decDigits k = [UInt8.ofNat (48 + k)] := by rw [Go.Lib.decDigits, dif_pos h]
theorem stage_dec {a : UInt8} (h : 48 ≤ (a.toNat : Int) ∧ (a.toNat : Int) ≤ 51) : Go.Lib.decDigits ((a.toNat : Int) - 48).toNat = [a] := by
  rw [dec_small (by omega)]
  have : 48 + ((a.toNat : Int) - 48).toNat = a.toNat := by omega
  rw [this]
  simp
theorem wordOf_mode {w : List UInt8} (h : modeN w ≠ 0) : wordOf (modeN w) = w := by
  unfold modeN at h ⊢
  by_cases h1 : w = fileW
  · rw [if_pos h1]; exact h1.symm
  · rw [if_neg h1] at h ⊢
    by_cases h2 : w = runW
    · rw [if_pos h2]; exact h2.symm
    · rw [if_neg h2] at h; exact absurd rfl h
theorem ent_back {E : List UInt8} {e : T_Entry.den} (h : entE E = some e) : GoodE e ∧ entT e = E ++ [10] := by
  have hu := unw_wds E []
  unfold entE at h
  generalize wds [] E = ws at h hu
  unfold wordE at h
  split at h
  · rename_i a w1 w2 w3
    split at h
    · rename_i hc
      cases h
      obtain ⟨hc0, hc1, hc2, hc3⟩ := hc
      have hm := modeN_or w1
      refine ⟨⟨by show (0 : Int) ≤ (a.toNat : Int) - 48; omega, by show (a.toNat : Int) - 48 ≤ 3; omega, by
        rcases hm with hm | hm | hm
        · exact absurd hm hc3
        · exact .inl hm
        · exact .inr hm⟩, ?_⟩
      show Go.Lib.decDigits ((a.toNat : Int) - 48).toNat ++ [32] ++ wordOf (modeN w1) ++ [32] ++ w2 ++ [32] ++ w3 ++ [10] = E ++ [10]
      rw [stage_dec hc0, wordOf_mode hc3]
      rw [List.nil_append] at hu
      rw [← hu]
      simp [unw]
    · cases h
  · cases h

/-! #### the text of entries -/
def txt (l : List T_Entry.den) : List UInt8 := (l.map entT).flatten
theorem txt_cons (e : T_Entry.den) (l : List T_Entry.den) : txt (e :: l) = entT e ++ txt l := rfl
noncomputable def sumLn (T : List UInt8) : List UInt8 := sumW ++ Go.Lib.decDigits (digest (ba T)).toNat ++ [10]
theorem dig_says {e : T_Entry.den} (g : GoodE e) : spec_l3Digits.s (stg e) = some (ba (Go.Lib.decDigits (stg e).toNat)) ∧ impl_decimal.s (stg e) = some (ba (Go.Lib.decDigits (stg e).toNat)) := by
  obtain ⟨k, hk⟩ := Int.eq_ofNat_of_zero_le g.st0
  have h3 := g.st3
  generalize stg e = q at hk h3
  subst hk
  refine ⟨by rw [(digits_all k (by omega)).1]; simp, ?_⟩
  rw [impl_decimal.e, if_pos (by omega), decB_nat]
  simp
theorem word_says {e : T_Entry.den} (g : GoodE e) : impl_modeWord.s (mde e) = some (ba (wordOf (mde e))) ∧ 0 ≤ mde e ∧ mde e < 4 ∧ nth Ty.str [noS, fileB, runB, treeB] (mde e).toNat = ba (wordOf (mde e)) := by
  have h := g.md
  generalize mde e = m at h
  rcases h with rfl | rfl
  · refine ⟨?_, by omega, by omega, rfl⟩
    rw [impl_modeWord.e, if_pos (by decide)]; rfl
  · refine ⟨?_, by omega, by omega, rfl⟩
    rw [impl_modeWord.e, if_pos (by decide)]; rfl
theorem sp_sz : (ByteArray.mk #[(32 : UInt8)]).size = 1 := rfl
theorem lf_sz : (ByteArray.mk #[(10 : UInt8)]).size = 1 := rfl
theorem sum_sz : (ByteArray.mk #[(115 : UInt8), (117 : UInt8), (109 : UInt8), (32 : UInt8)]).size = 4 := rfl
theorem ap_size (a b : ByteArray) : (a ++ b).size = a.size + b.size := ByteArray.size_append
theorem entT_len (e : T_Entry.den) : (entT e).length = (Go.Lib.decDigits (stg e).toNat).length + (wordOf (mde e)).length + (eid e).size + (epa e).size + 4 := by
  have h1 : (eid e).size = (eid e).data.toList.length := Go.Lib.size_eq _
  have h2 : (epa e).size = (epa e).data.toList.length := Go.Lib.size_eq _
  unfold entT
  rw [h1, h2]
  simp only [List.length_append, List.length_cons, List.length_nil]
  omega
theorem entB (e : T_Entry.den) (T : List UInt8) : ba T ++ ba (Go.Lib.decDigits (stg e).toNat) ++ ByteArray.mk #[(32 : UInt8)] ++ ba (wordOf (mde e)) ++ ByteArray.mk #[(32 : UInt8)] ++ eid e ++ ByteArray.mk #[(32 : UInt8)] ++ epa e ++ ByteArray.mk #[(10 : UInt8)] = ba (T ++ entT e) := by
  rw [show ByteArray.mk #[(32 : UInt8)] = ba [32] from rfl, show ByteArray.mk #[(10 : UInt8)] = ba [10] from rfl]
  conv => lhs; rw [← ba_self (eid e), ← ba_self (epa e)]
  simp only [ba_append]
  congr 1
  unfold entT
  simp only [List.append_assoc]
theorem entB0 (e : T_Entry.den) : ba (Go.Lib.decDigits (stg e).toNat) ++ ByteArray.mk #[(32 : UInt8)] ++ ba (wordOf (mde e)) ++ ByteArray.mk #[(32 : UInt8)] ++ eid e ++ ByteArray.mk #[(32 : UInt8)] ++ epa e ++ ByteArray.mk #[(10 : UInt8)] = ba (entT e) := by
  have := entB e []
  rw [List.nil_append] at this
  rw [← this]
  congr 7
theorem spec_text_step (l : List T_Entry.den) (T : List UInt8) (i : Nat) (hi : i < l.length) (hl : l.length ≤ 1048576) (g : GoodE l[i]) (hs : T.length + (entT l[i]).length ≤ 4000000000) :
    spec_l10Text_L3.s l (ba T) i = spec_l10Text_L3.s l (ba (T ++ entT l[i])) ((i + 1 : Nat) : Int) := by
  have c1 : ((i : Nat) : Int) < (l.length : Int) := by omega
  have c2 : 0 ≤ ((i : Nat) : Int) ∧ ((i : Nat) : Int) < (l.length : Int) := by omega
  obtain ⟨d1, _⟩ := dig_says g
  obtain ⟨_, w2, w3, w4⟩ := word_says g
  have w5 := entT_len (l[i] : T_Entry.den)
  have heq := spec_l10Text_L3.e l (ba T) i
  rw [if_pos c1, if_pos c2] at heq
  simp only [Int.toNat_natCast, nth_at (t := T_Entry) hi, wrap_succ (show i < 4611686018427387904 by omega), words_all] at heq
  rw [show (l[i] : T_Entry.den).snd.fst = stg l[i] from rfl, d1] at heq
  simp only [Option.bind_some] at heq
  have l4 : ((([noS, fileB, runB, treeB] : List ByteArray).length : Nat) : Int) = 4 := rfl
  have c3 : 0 ≤ (l[i] : T_Entry.den).snd.snd.fst ∧ (l[i] : T_Entry.den).snd.snd.fst < 4 := ⟨w2, w3⟩
  rw [show nth Ty.str [noS, fileB, runB, treeB] (Int.toNat (l[i] : T_Entry.den).snd.snd.fst) = ba (wordOf (mde l[i])) from w4] at heq
  rw [heq]
  simp only [l4, if_pos c3]
  simp only [ap_size, ba_size, sp_sz, lf_sz]
  have f1 : (eid l[i]).size = ByteArray.size (l[i] : T_Entry.den).snd.snd.snd.fst := rfl
  have f2 : (epa l[i]).size = ByteArray.size (l[i] : T_Entry.den).fst := rfl
  rw [f1, f2] at w5
  rw [if_pos (by omega), if_pos (by omega), if_pos (by omega), if_pos (by omega), if_pos (by omega), if_pos (by omega), if_pos (by omega), if_pos (by omega)]
  congr 1
  exact entB l[i] T
theorem txt_drop (l : List T_Entry.den) (i : Nat) (hi : i < l.length) : txt (l.drop i) = entT l[i] ++ txt (l.drop (i + 1)) := by
  rw [List.drop_eq_getElem_cons hi, txt_cons]
theorem dec_len5 {k : Nat} (h : k < 1000000) : (Go.Lib.decDigits k).length ≤ 1000000 := by have := (digits_all k h).2; omega
theorem spec_text_loop (l : List T_Entry.den) (hl : l.length ≤ 1048576) (hg : ∀ e ∈ l, GoodE e) : ∀ (k i : Nat) (T : List UInt8), i + k = l.length → T.length + (txt (l.drop i)).length ≤ 3000000000 →
    spec_l10Text_L3.s l (ba T) i = some (ba (T ++ txt (l.drop i) ++ sumLn (T ++ txt (l.drop i))))
  | 0, i, T, h, hs => by
    have hi : i = l.length := by omega
    have he : txt (l.drop i) = [] := by rw [List.drop_eq_nil_of_le (by omega)]; rfl
    rw [he] at hs ⊢
    simp only [List.append_nil, List.length_nil] at hs ⊢
    obtain ⟨q1, q2, q3, q4⟩ := digest_all (ba T) (by rw [ba_size]; omega)
    have hd : spec_l3Digits.s (digest (ba T)) = some (ba (Go.Lib.decDigits (digest (ba T)).toNat)) := by
      obtain ⟨k, hk⟩ := Int.eq_ofNat_of_zero_le q3
      rw [hk] at q4 ⊢
      rw [(digits_all k (by omega)).1]; simp
    have hdl : (Go.Lib.decDigits (digest (ba T)).toNat).length ≤ 1000000 := dec_len5 (by omega)
    rw [spec_l10Text_L3.e, if_neg (by omega), q1, Option.bind_some, hd, Option.bind_some]
    simp only [ap_size, ba_size, lf_sz, sum_sz]
    rw [if_pos (by omega), if_pos (by omega), if_pos (by omega)]
    rw [show ByteArray.mk #[(10 : UInt8)] = ba [10] from rfl, show ByteArray.mk #[(115 : UInt8), (117 : UInt8), (109 : UInt8), (32 : UInt8)] = ba sumW from rfl]
    simp only [ba_append]
    unfold sumLn
    simp only [List.append_assoc]
  | k + 1, i, T, h, hs => by
    have hi : i < l.length := by omega
    have hd := txt_drop l i hi
    rw [hd, List.length_append] at hs
    rw [spec_text_step l T i hi hl (hg _ (List.getElem_mem hi)) (by omega), spec_text_loop l hl hg k (i + 1) _ (by omega) (by rw [List.length_append]; omega), hd]
    simp only [List.append_assoc]
theorem spec_text (l : List T_Entry.den) (hl : l.length ≤ 1048576) (hg : ∀ e ∈ l, GoodE e) (hs : (txt l).length ≤ 3000000000) : spec_l10Text.s l = some (ba (txt l ++ sumLn (txt l))) := by
  rw [spec_l10Text.e]
  have := spec_text_loop l hl hg l.length 0 [] (by omega) (by simpa using hs)
  rw [List.drop_zero, List.nil_append] at this
  exact this

/-! #### the program's way -/
theorem strBytes_ba (T : List UInt8) : strBytes (ba T) = T.map fun b => (b.toNat : Int) := by unfold strBytes; rw [ba_toList]
theorem strBytes_app (T U : List UInt8) : strBytes (ba T) ++ strBytes (ba U) = strBytes (ba (T ++ U)) := by simp [strBytes_ba]
theorem strBytes_length (T : List UInt8) : (strBytes (ba T)).length = T.length := by simp [strBytes_ba]
theorem bytesStr_back (T : List UInt8) : bytesStr (strBytes (ba T)) = ba T := by
  unfold bytesStr
  rw [strBytes_ba, List.map_map]
  congr 2
  conv => rhs; rw [← List.map_id T]
  refine List.map_congr_left fun b _ => ?_
  simp
theorem impl_text_loop (l : List T_Entry.den) (hl : l.length ≤ 1048576) (hg : ∀ e ∈ l, GoodE e) : ∀ (k i : Nat) (T : List UInt8), i + k = l.length → T ≠ [] → T.length + (txt (l.drop i)).length ≤ 3000000000 →
    impl_entriesText_L3v1.s l l.length i (strBytes (ba T)).length (strBytes (ba T)) = some (ba (T ++ txt (l.drop i)))
  | 0, i, T, h, hT, hs => by
    have hi : i = l.length := by omega
    have he : txt (l.drop i) = [] := by rw [List.drop_eq_nil_of_le (by omega)]; rfl
    have hpos := List.length_pos_iff.2 hT
    rw [he] at hs ⊢
    rw [impl_entriesText_L3v1.e, if_neg (by omega), strBytes_length, if_pos hpos, if_pos ⟨rfl, hpos, by simp at hs; omega⟩, bytesStr_back, List.append_nil]
  | k + 1, i, T, h, hT, hs => by
    have hi : i < l.length := by omega
    have hd := txt_drop l i hi
    rw [hd, List.length_append] at hs
    have c1 : ((i : Nat) : Int) < (l.length : Int) := by omega
    have c2 : 0 ≤ ((i : Nat) : Int) ∧ ((i : Nat) : Int) < (l.length : Int) := by omega
    have g := hg _ (List.getElem_mem hi)
    obtain ⟨_, d1⟩ := dig_says g
    obtain ⟨w1, _, _, _⟩ := word_says g
    have w5 := entT_len (l[i] : T_Entry.den)
    have heq := impl_entriesText_L3v1.e l l.length i (strBytes (ba T)).length (strBytes (ba T))
    rw [if_pos c1, if_pos c2] at heq
    simp only [Int.toNat_natCast, nth_at (t := T_Entry) hi, wrap_succ (show i < 4611686018427387904 by omega)] at heq
    rw [show (l[i] : T_Entry.den).snd.fst = stg l[i] from rfl, d1, show (l[i] : T_Entry.den).snd.snd.fst = mde l[i] from rfl, w1] at heq
    simp only [Option.bind_some] at heq
    rw [show (l[i] : T_Entry.den).snd.snd.snd.fst = eid l[i] from rfl, show (l[i] : T_Entry.den).fst = epa l[i] from rfl, entB0] at heq
    rw [heq]
    simp only [ap_size, ba_size, sp_sz, lf_sz, strBytes_length, strBytes_app]
    rw [if_pos (by omega), if_pos (by omega), if_pos (by omega), if_pos (by omega), if_pos (by omega), if_pos (by omega), if_pos (by omega), if_pos (by omega)]
    have := impl_text_loop l hl hg k (i + 1) (T ++ entT l[i]) (by omega) (by simp [hT]) (by rw [List.length_append]; omega)
    rw [strBytes_length] at this
    rw [this, hd, List.append_assoc]
theorem impl_text (l : List T_Entry.den) (hl : l.length ≤ 1048576) (hg : ∀ e ∈ l, GoodE e) (hs : (txt l).length ≤ 3000000000) : impl_entriesText.s l = some (ba (txt l)) := by
  rw [impl_entriesText.e]
  cases l with
  | nil => rw [impl_entriesText_L3.e, if_neg (by simp)]; rfl
  | cons e r =>
    have hi : 0 < (e :: r).length := by simp
    have hd : txt (e :: r) = entT e ++ txt r := rfl
    rw [hd, List.length_append] at hs
    have c1 : (0 : Int) < ((e :: r).length : Int) := by omega
    have c2 : (0 : Int) ≤ 0 ∧ (0 : Int) < ((e :: r).length : Int) := by omega
    have g := hg e (by simp)
    obtain ⟨_, d1⟩ := dig_says g
    obtain ⟨w1, _, _, _⟩ := word_says g
    have w5 := entT_len e
    have n0 : nth T_Entry (e :: r) (Int.toNat (0 : Int)) = e := rfl
    have i0 : IntKind.i64.wrap ((0 : Int) + 1) = ((1 : Nat) : Int) := by decide
    have heq := impl_entriesText_L3.e (e :: r) (e :: r).length 0
    rw [if_pos c1, if_pos c2] at heq
    simp only [n0, i0] at heq
    rw [show e.snd.fst = stg e from rfl, d1, show e.snd.snd.fst = mde e from rfl, w1] at heq
    simp only [Option.bind_some] at heq
    rw [show e.snd.snd.snd.fst = eid e from rfl, show e.fst = epa e from rfl, entB0] at heq
    rw [heq]
    simp only [ap_size, ba_size, sp_sz, lf_sz, strBytes_length]
    rw [if_pos (by omega), if_pos (by omega), if_pos (by omega), if_pos (by omega), if_pos (by omega), if_pos (by omega), if_pos (by omega), if_pos (by omega)]
    have := impl_text_loop (e :: r) hl hg r.length 1 (entT e) (by simp; omega) (fun h => by have := congrArg List.length h; rw [w5] at this; simp at this) (by show (entT e).length + (txt r).length ≤ _; omega)
    rw [strBytes_length] at this
    rw [this]; rfl
theorem impl_sumL (T : List UInt8) (hT : T.length ≤ 3000000000) : impl_sumLine.s (ba T) = some (ba (sumLn T)) := by
  obtain ⟨q1, q2, q3, q4⟩ := digest_all (ba T) (by rw [ba_size]; omega)
  have hd : impl_decimal.s (digest (ba T)) = some (ba (Go.Lib.decDigits (digest (ba T)).toNat)) := by
    obtain ⟨k, hk⟩ := Int.eq_ofNat_of_zero_le q3
    rw [hk] at q4 ⊢
    rw [impl_decimal.e, if_pos (by omega), decB_nat]; simp
  have hdl : (Go.Lib.decDigits (digest (ba T)).toNat).length ≤ 1000000 := dec_len5 (by omega)
  rw [impl_sumLine.e, q2, Option.bind_some, hd, Option.bind_some]
  simp only [ap_size, ba_size, lf_sz, sum_sz]
  rw [if_pos (by omega), if_pos (by omega)]
  rw [show ByteArray.mk #[(10 : UInt8)] = ba [10] from rfl, show ByteArray.mk #[(115 : UInt8), (117 : UInt8), (109 : UInt8), (32 : UInt8)] = ba sumW from rfl]
  simp only [ba_append]
  rfl
end Go.Proofs.YthooeghlplhlnaaGreatDoor.Ev
