/- PfDigest, PfStore, PfSearch, PfGet0, PfGet, PfPut, PfBin, PfZero, PfSmall. -/
import Derived.Test.YtmojilihllhadaaGreatDoorPfGa
set_option linter.unusedVariables false
set_option linter.unusedSimpArgs false
namespace Go.Proofs.YtmojilihllhadaaGreatDoor.Ev
open Go
/-! #### digests -/
theorem byteAt_bd (s : ByteArray) (i : Nat) : 0 ≤ byteAt s i ∧ byteAt s i ≤ 255 := by
  unfold byteAt
  have := (s.data.toList.getD i 0).toNat_lt
  omega
theorem digest_loop (s : ByteArray) (hs : s.size ≤ 4000000000) : ∀ (k i : Nat) (h : Int), i + k = s.size → 0 ≤ h → h < 65521 →
    ∃ v, 0 ≤ v ∧ v < 65521 ∧ spec_DigestOf_L3.s s h i = some v ∧ impl_DigestOf_L3.s s h s.size i = some v
  | 0, i, h, hi, h0, h1 => ⟨h, h0, h1, by rw [spec_DigestOf_L3.e, if_neg (by omega)], by rw [impl_DigestOf_L3.e, if_neg (by omega)]⟩
  | k + 1, i, h, hi, h0, h1 => by
    have hb := byteAt_bd s i
    have e : (IntKind.i64.wrap (IntKind.i64.wrap (h * (131 : Int)) + IntKind.i64.wrap (byteAt s i))).tmod (65521 : Int) = (h * 131 + byteAt s i) % 65521 := by
      rw [wrap_id (x := h * 131) (by omega) (by omega), wrap_id (x := byteAt s i) (by omega) (by omega), wrap_id (by omega) (by omega), Int.tmod_eq_emod_of_nonneg (by omega)]
    obtain ⟨v, v0, v1, q1, q2⟩ := digest_loop s hs k (i + 1) ((h * 131 + byteAt s i) % 65521) (by omega) (by omega) (by omega)
    refine ⟨v, v0, v1, ?_, ?_⟩
    · rw [spec_DigestOf_L3.e, if_pos (by omega), if_pos (by omega), wrap_succ (by omega), Int.toNat_natCast, e]; exact q1
    · rw [impl_DigestOf_L3.e, if_pos (by omega), if_pos (by omega), wrap_succ (by omega), Int.toNat_natCast, e]; exact q2
noncomputable def digest (s : ByteArray) : Int := (spec_DigestOf.s s).getD 0
theorem digest_all (s : ByteArray) (hs : s.size ≤ 4000000000) : spec_DigestOf.s s = some (digest s) ∧ impl_DigestOf.s s = some (digest s) ∧ 0 ≤ digest s ∧ digest s < 65521 := by
  obtain ⟨v, v0, v1, q1, q2⟩ := digest_loop s hs s.size 0 7 (by omega) (by omega) (by omega)
  have e1 : spec_DigestOf.s s = some v := by rw [spec_DigestOf.e]; exact q1
  have e : digest s = v := by unfold digest; rw [e1]; rfl
  rw [e]
  exact ⟨e1, by rw [impl_DigestOf.e]; exact q2, v0, v1⟩
/-! #### names of data -/
def hex4 (d : Nat) : List UInt8 := [hexDig (d / 4096), hexDig (d / 256 % 16), hexDig (d / 16 % 16), hexDig (d % 16)]
def letter (k : Int) : UInt8 := if k = 1 then 98 else if k = 2 then 116 else 99
noncomputable def idB (k : Int) (s : ByteArray) : ByteArray := ba (letter k :: hex4 (digest s).toNat)
def hexT : ByteArray := ByteArray.mk #[48, 49, 50, 51, 52, 53, 54, 55, 56, 57, 97, 98, 99, 100, 101, 102]
theorem hexT_fin : ∀ d : _root_.Fin 16, (hexT.extract d.val (d.val + 1)).data.toList = [hexDig d.val] := by decide
theorem hexT_at {d : Nat} (h : d < 16) : hexT.extract d (d + 1) = ba [hexDig d] := ba_ext (hexT_fin ⟨d, h⟩)
theorem hexT_size : hexT.size = 16 := rfl
theorem l5Id_step (k : Int) (d : Nat) (out : List UInt8) (i : Nat) (hi : i < 4) (hd : d < 65521) (ho : out.length ≤ 10) :
    spec_l5Id_L4.s k d (ba out) i = spec_l5Id_L4.s k ((d / 16 : Nat) : Int) (ba (hexDig (d % 16) :: out)) ((i + 1 : Nat) : Int) := by
  have e1 : (d : Int).tmod 16 = ((d % 16 : Nat) : Int) := by rw [Int.tmod_eq_emod_of_nonneg (by omega)]; omega
  have e2 : (d : Int).tdiv 16 = ((d / 16 : Nat) : Int) := by rw [Int.tdiv_eq_ediv_of_nonneg (by omega)]; omega
  rw [spec_l5Id_L4.e]
  simp only [e1, e2, wrap_succ (i := d % 16) (by omega), Int.toNat_natCast]
  rw [show (ByteArray.mk #[(48 : UInt8), (49 : UInt8), (50 : UInt8), (51 : UInt8), (52 : UInt8), (53 : UInt8), (54 : UInt8), (55 : UInt8), (56 : UInt8), (57 : UInt8), (97 : UInt8), (98 : UInt8), (99 : UInt8), (100 : UInt8), (101 : UInt8), (102 : UInt8)]) = hexT from rfl]
  rw [hexT_at (by omega), hexT_size, ba_append, if_pos (by omega), if_pos (by omega), if_pos (by omega), if_pos (by simp only [ba_size, List.length_cons, List.length_nil]; omega), wrap_nat (by omega), wrap_succ (by omega)]
  rfl
theorem letter_spec (k : Int) (h0 : 1 ≤ k) (h1 : k ≤ 3) : spec_l5Letter.s k = some (ba [letter k]) := by
  rw [spec_l5Letter.e]
  have : k = 1 ∨ k = 2 ∨ k = 3 := by omega
  rcases this with rfl | rfl | rfl <;> rfl
theorem spec_id (k : Int) (s : ByteArray) (h0 : 1 ≤ k) (h1 : k ≤ 3) (hs : s.size ≤ 4000000000) : spec_l5Id.s k s = some (idB k s) := by
  obtain ⟨q1, _, q3, q4⟩ := digest_all s hs
  rw [spec_l5Id.e, q1, Option.bind_some]
  unfold idB
  obtain ⟨d, hd⟩ := Int.eq_ofNat_of_zero_le q3
  rw [hd] at q4 ⊢
  have hd' : d < 65521 := by omega
  rw [show noS = ba [] from rfl, show (0 : Int) = ((0 : Nat) : Int) from rfl, l5Id_step k d [] 0 (by omega) hd' (by simp), l5Id_step k _ _ 1 (by omega) (by omega) (by simp), l5Id_step k _ _ 2 (by omega) (by omega) (by simp),
    l5Id_step k _ _ 3 (by omega) (by omega) (by simp), spec_l5Id_L4.e, if_neg (by omega), letter_spec k h0 h1, Option.bind_some, ba_append, if_pos (by simp [ba_size]), Int.toNat_natCast]
  have e1 : d / 16 / 16 / 16 % 16 = d / 4096 := by omega
  have e2 : d / 16 / 16 % 16 = d / 256 % 16 := by omega
  rw [e1, e2]
  rfl
theorem hex_pad (d : Nat) (hd : d < 65536) : (hexB (d : Int)).size ≤ 4 ∧ repB (ByteArray.mk #[48]) (4 - (hexB (d : Int)).size) ++ hexB (d : Int) = ba (hex4 d) := by
  have hr : ∀ n l, repB (ByteArray.mk #[48]) n ++ ba l = ba (List.replicate n 48 ++ l) := fun n l => by
    have : repB (ByteArray.mk #[48]) n = ba (List.replicate n 48) := by
      unfold repB ba
      congr 2
      induction n with
      | zero => rfl
      | succ n ih => simp only [Go.Lib.repeatL] at ih ⊢; rw [ih]; rfl
    rw [this, ba_append]
  unfold hexB hex4
  split
  · have e1 : d / 4096 = 0 := by omega
    have e2 : d / 256 % 16 = 0 := by omega
    have e3 : d / 16 % 16 = 0 := by omega
    have e4 : d % 16 = d := by omega
    rw [e1, e2, e3, e4]
    exact ⟨by show (_ : Nat) ≤ 4; simp [ByteArray.size], hr 3 _⟩
  · split
    · have e1 : d / 4096 = 0 := by omega
      have e2 : d / 256 % 16 = 0 := by omega
      have e3 : d / 16 % 16 = d / 16 := by omega
      rw [e1, e2, e3]
      exact ⟨by show (_ : Nat) ≤ 4; simp [ByteArray.size], hr 2 _⟩
    · split
      · have e1 : d / 4096 = 0 := by omega
        have e2 : d / 256 % 16 = d / 256 := by omega
        rw [e1, e2]
        exact ⟨by show (_ : Nat) ≤ 4; simp [ByteArray.size], hr 1 _⟩
      · exact ⟨by show (_ : Nat) ≤ 4; simp [ByteArray.size], hr 0 _⟩
theorem letter_impl (k : Int) (h0 : 1 ≤ k) (h1 : k ≤ 3) : (ByteArray.mk #[(98 : UInt8), (116 : UInt8), (99 : UInt8)]).extract (IntKind.i64.wrap (k - (1 : Int))).toNat k.toNat = ba [letter k] := by
  have : k = 1 ∨ k = 2 ∨ k = 3 := by omega
  rcases this with rfl | rfl | rfl <;> rfl
theorem impl_id (k : Int) (s : ByteArray) (h0 : 1 ≤ k) (h1 : k ≤ 3) (hs : s.size ≤ 4000000000) : impl_idOf.s k s = some (idB k s) := by
  obtain ⟨_, q2, q3, q4⟩ := digest_all s hs
  rw [impl_idOf.e, q2, Option.bind_some]
  unfold idB
  obtain ⟨d, hd⟩ := Int.eq_ofNat_of_zero_le q3
  rw [hd] at q4 ⊢
  have hd' : d < 65521 := by omega
  obtain ⟨p1, p2⟩ := hex_pad d (by omega)
  have e3 : (ByteArray.mk #[(98 : UInt8), (116 : UInt8), (99 : UInt8)]).size = 3 := rfl
  have e4 : (ByteArray.mk #[(48 : UInt8)]).size = 1 := rfl
  have e5 : IntKind.i64.wrap ((4 : Int) - ((hexB (d : Int)).size : Int)) = ((4 - (hexB (d : Int)).size : Nat) : Int) := by rw [wrap_id (by omega) (by omega)]; omega
  have e6 : IntKind.i64.wrap (k - 1) = k - 1 := wrap_id (by omega) (by omega)
  have e7 := congrArg ByteArray.size p2
  rw [ByteArray.size_append] at e7
  have e8 : (ba (hex4 d)).size = 4 := rfl
  have e9 : (ba [letter k]).size = 1 := rfl
  rw [letter_impl k h0 h1, e3, e4, e5]
  simp only [e6, Int.toNat_natCast]
  rw [if_pos (by omega), if_pos (by omega), if_pos (by omega), if_pos (by omega), if_pos (by omega), if_pos (by rw [ByteArray.size_append]; omega), ByteArray.append_assoc, p2, ba_append]
  rfl
/-! #### faults of stores -/
theorem spec_kind (k : Int) : spec_l5Kind.s k = some (decide (1 ≤ k ∧ k ≤ 3)) := by
  rw [spec_l5Kind.e, spec_l1In.e]
  by_cases h : k ≥ 1
  · rw [if_pos h, Option.bind_some]; congr 1; simp; omega
  · rw [if_neg h, Option.bind_some]; congr 1; simp; omega
theorem impl_kind (k : Int) : impl_isKind.s k = some (decide (1 ≤ k ∧ k ≤ 3)) := by
  rw [impl_isKind.e, impl_within.e]
  by_cases h : k ≥ 1
  · rw [if_pos h, Option.bind_some]; congr 1; simp; omega
  · rw [if_neg h, Option.bind_some]; congr 1; simp; omega
def dc (k : Int) (s : ByteArray) : Int := if 1 ≤ k ∧ k ≤ 3 then tf s else 3
theorem impl_dc (k : Int) (s : ByteArray) : impl_dataCode.s k s = some (dc k s) := by
  rw [impl_dataCode.e, impl_kind, Option.bind_some, codeIf_s, Option.bind_some, impl_tf, Option.bind_some, firstCode2_s, Option.bind_some]
  unfold dc
  by_cases h : 1 ≤ k ∧ k ≤ 3
  · rw [if_pos h]; simp [h]
  · rw [if_neg h]; simp [h]
theorem spec_idOf (k : Int) (s : ByteArray) : spec_IdOf.s k s = some (if dc k s = 0 then ((0 : Int), idB k s, ()) else (dc k s, noS, ())) := by
  rw [spec_IdOf.e, spec_kind, Option.bind_some]
  unfold dc
  by_cases h : 1 ≤ k ∧ k ≤ 3
  · simp only [decide_eq_true h, if_pos h, if_true]
    rw [spec_tf, Option.bind_some]
    by_cases ht : tf s = 0
    · have := tf_size ht
      rw [if_pos ht, if_pos ht, spec_id k s h.1 h.2 (by omega), Option.bind_some]
    · rw [if_neg ht, if_neg ht]
  · simp only [decide_eq_false h, if_neg h]
    rfl
theorem store_loop (l : List T_Object.den) (hl : l.length ≤ 1048576) : ∀ (k i : Nat), i + k = l.length →
    ∃ r, spec_StoreFault_L4.s l i = some r ∧ impl_StoreFault_L4.s l l l.length i = some r
  | 0, i, h => ⟨0, by rw [spec_StoreFault_L4.e, if_neg (by omega)], by rw [impl_StoreFault_L4.e, if_neg (by omega)]⟩
  | k + 1, i, h => by
    obtain ⟨r, h1, h2⟩ := store_loop l hl k (i + 1) (by omega)
    have hi : i < l.length := by omega
    rw [spec_StoreFault_L4.e, impl_StoreFault_L4.e]
    simp (disch := omega) only [if_pos, wrap_succ, h1, h2, spec_idOf, impl_dc, Option.bind_some, Int.toNat_natCast, nth_at hi]
    by_cases hd : dc (l[i] : T_Object.den).2.1 (l[i] : T_Object.den).2.2.1 = 0
    · have hk : 1 ≤ (l[i] : T_Object.den).2.1 ∧ (l[i] : T_Object.den).2.1 ≤ 3 := by
        unfold dc at hd
        split at hd
        · assumption
        · omega
      have ht : tf (l[i] : T_Object.den).2.2.1 = 0 := by unfold dc at hd; rwa [if_pos hk] at hd
      have := tf_size ht
      have hI := impl_id (l[i] : T_Object.den).2.1 (l[i] : T_Object.den).2.2.1 hk.1 hk.2 (by omega)
      simp only [if_pos hd, if_true, hI, Option.bind_some, eq_comm (a := (l[i] : T_Object.den).1)]
      by_cases hid : idB (l[i] : T_Object.den).2.1 (l[i] : T_Object.den).2.2.1 = (l[i] : T_Object.den).1
      · simp only [if_pos hid]
        by_cases h0 : (i : Int) > 0
        · simp (disch := omega) only [if_pos, wrap_pred]
          split
          · exact ⟨_, rfl, rfl⟩
          · exact ⟨_, rfl, rfl⟩
        · simp only [if_neg h0]
          exact ⟨_, rfl, rfl⟩
      · simp only [if_neg hid]
        exact ⟨_, rfl, rfl⟩
    · simp only [if_neg hd]
      exact ⟨_, rfl, rfl⟩
noncomputable def storeFault (l : List T_Object.den) : Int := (spec_StoreFault.s l).getD 0
theorem storeFault_all (l : List T_Object.den) (hl : l.length ≤ 1048576) : spec_StoreFault.s l = some (storeFault l) ∧ impl_StoreFault.s l = some (storeFault l) := by
  have key : ∃ r, spec_StoreFault.s l = some r ∧ impl_StoreFault.s l = some r := by
    rw [spec_StoreFault.e, impl_StoreFault.e]
    split
    · exact ⟨_, rfl, rfl⟩
    · exact store_loop l hl l.length 0 (by omega)
  obtain ⟨r, h1, h2⟩ := key
  have e : storeFault l = r := by unfold storeFault; rw [h1]; rfl
  rw [e]
  exact ⟨h1, h2⟩
theorem mid_eq {i j : Nat} (h : i + j < 4611686018427387904) : IntKind.i64.wrap ((IntKind.u64.wrap (IntKind.i64.wrap ((i : Int) + (j : Int)))).fdiv ((2 : Int) ^ min (Int.toNat (1 : Int)) IntKind.u64.bits)) = (((i + j) / 2 : Nat) : Int) := by
  have h1 : IntKind.i64.wrap ((i : Int) + (j : Int)) = ((i + j : Nat) : Int) := by rw [wrap_id (by omega) (by omega)]; omega
  have h2 : IntKind.u64.wrap ((i + j : Nat) : Int) = ((i + j : Nat) : Int) := by
    unfold IntKind.wrap
    have e1 : (2 : Int) ^ IntKind.u64.bits = 18446744073709551616 := rfl
    have e2 : IntKind.u64.signed = false := rfl
    simp only [e1, e2, Bool.false_and, Bool.false_eq_true, if_false]
    omega
  have h3 : ((2 : Int) ^ min (Int.toNat (1 : Int)) IntKind.u64.bits) = 2 := rfl
  rw [h1, h2, h3]
  have h4 : ((i + j : Nat) : Int).fdiv 2 = (((i + j) / 2 : Nat) : Int) := by rw [Int.fdiv_eq_ediv_of_nonneg _ (by omega)]; omega
  rw [h4, wrap_nat (by omega)]
structure At {t : Ty} (c : t.den → Int) (l : List t.den) (i : Nat) : Prop where
  le : i ≤ l.length
  lo : ∀ k, (hk : k < l.length) → k < i → c l[k] < 0
  hi : ∀ k, (hk : k < l.length) → i ≤ k → ¬ c l[k] < 0
theorem At.unique {t : Ty} {c : t.den → Int} {l : List t.den} {i j : Nat} (h : At c l i) (k : At c l j) : i = j := by
  rcases Nat.lt_trichotomy i j with hlt | rfl | hgt
  · exact absurd (k.lo i (by have := k.le; omega) hlt) (h.hi i (by have := k.le; omega) (Nat.le_refl _))
  · rfl
  · exact absurd (h.lo j (by have := h.le; omega) hgt) (k.hi j (by have := h.le; omega) (Nat.le_refl _))
def isAt {t : Ty} (c : t.den → Int) (l : List t.den) (i : Nat) : Bool := if h : i < l.length then decide (c l[i] = 0) else false
def Falls {t : Ty} (c : t.den → Int) (l : List t.den) : Prop := ∀ i j (hi : i < l.length) (hj : j < l.length), i < j → c l[j] < 0 → c l[i] < 0
def BsEq {t : Ty} {κ : Type} (C : t.den → κ → Option Int) (L : List t.den → κ → Int → Int → Int → Option (Int × Bool)) : Prop :=
  ∀ (xl0 : List t.den) (xs1 : κ) (xi2 xi3 xi4 : Int), L xl0 xs1 xi2 xi3 xi4 = if (xi3 < xi4) then if ((0 : Int) ≤ IntKind.i64.wrap ((IntKind.u64.wrap (IntKind.i64.wrap (xi3 + xi4))).fdiv ((2 : Int) ^ min (Int.toNat (1 : Int)) IntKind.u64.bits)) ∧ IntKind.i64.wrap ((IntKind.u64.wrap (IntKind.i64.wrap (xi3 + xi4))).fdiv ((2 : Int) ^ min (Int.toNat (1 : Int)) IntKind.u64.bits)) < (↑xl0.length : Int)) then (C (nth t xl0 (IntKind.i64.wrap ((IntKind.u64.wrap (IntKind.i64.wrap (xi3 + xi4))).fdiv ((2 : Int) ^ min (Int.toNat (1 : Int)) IntKind.u64.bits))).toNat) xs1).bind fun r0 => if (r0 < (0 : Int)) then L xl0 xs1 xi2 (IntKind.i64.wrap (IntKind.i64.wrap ((IntKind.u64.wrap (IntKind.i64.wrap (xi3 + xi4))).fdiv ((2 : Int) ^ min (Int.toNat (1 : Int)) IntKind.u64.bits)) + (1 : Int))) xi4 else L xl0 xs1 xi2 xi3 (IntKind.i64.wrap ((IntKind.u64.wrap (IntKind.i64.wrap (xi3 + xi4))).fdiv ((2 : Int) ^ min (Int.toNat (1 : Int)) IntKind.u64.bits))) else none else if (xi3 < xi2) then if ((0 : Int) ≤ xi3 ∧ xi3 < (↑xl0.length : Int)) then (C (nth t xl0 xi3.toNat) xs1).bind fun r1 => some (xi3, r1 == (0 : Int)) else none else some (xi3, false)
theorem bs_loop {t : Ty} {κ : Type} {C : t.den → κ → Option Int} {L : List t.den → κ → Int → Int → Int → Option (Int × Bool)} (hL : BsEq C L) {c : t.den → Int} {p : κ} {l : List t.den} (hC : ∀ x ∈ l, C x p = some (c x)) (hf : Falls c l) (hl : l.length ≤ 1048576) : ∀ (m i j : Nat), j - i ≤ m → i ≤ j → j ≤ l.length →
    (∀ k, (hk : k < l.length) → k < i → c l[k] < 0) → (∀ k, (hk : k < l.length) → j ≤ k → ¬ c l[k] < 0) →
    ∃ i', At c l i' ∧ L l p (l.length : Int) (i : Int) (j : Int) = some ((i' : Int), isAt c l i')
  | m, i, j, hm, hij, hj, hlo, hhi => by
    rcases Nat.eq_or_lt_of_le hij with rfl | hlt
    · refine ⟨i, ⟨hj, hlo, hhi⟩, ?_⟩
      rw [hL]
      unfold isAt
      by_cases h : i < l.length
      · simp (disch := omega) only [if_pos, if_neg, dif_pos h, Int.toNat_natCast, nth_at h, hC _ (List.getElem_mem h), Option.bind_some]
        congr 2
      · simp (disch := omega) only [if_neg, dif_neg h]
    · cases m with
      | zero => omega
      | succ m =>
        have hmid : (i + j) / 2 < l.length := by omega
        have hm2 := mid_eq (i := i) (j := j) (by omega)
        rw [hL]
        simp (disch := omega) only [hm2, if_pos, Int.toNat_natCast, nth_at hmid, hC _ (List.getElem_mem hmid), Option.bind_some, wrap_succ]
        by_cases hc : c l[(i + j) / 2] < 0
        · simp only [if_pos hc]
          exact bs_loop hL hC hf hl m ((i + j) / 2 + 1) j (by omega) (by omega) hj (fun k hk hk2 => by
            rcases Nat.lt_or_ge k ((i + j) / 2) with h | h
            · exact hf k _ hk hmid h hc
            · have : k = (i + j) / 2 := by omega
              subst this; exact hc) hhi
        · simp only [if_neg hc]
          exact bs_loop hL hC hf hl m i ((i + j) / 2) (by omega) (by omega) (by omega) hlo (fun k hk hk2 hlt => by
            rcases Nat.eq_or_lt_of_le hk2 with rfl | h
            · exact hc hlt
            · exact hc (hf _ k hmid hk h hlt))
theorem bs_all {t : Ty} {κ : Type} {C : t.den → κ → Option Int} {L : List t.den → κ → Int → Int → Int → Option (Int × Bool)} (hL : BsEq C L) {c : t.den → Int} {p : κ} {l : List t.den} (hC : ∀ x ∈ l, C x p = some (c x)) (hf : Falls c l) (hl : l.length ≤ 1048576) :
    ∃ i', At c l i' ∧ L l p (l.length : Int) (0 : Int) (l.length : Int) = some ((i' : Int), isAt c l i') :=
  bs_loop hL hC hf hl l.length 0 l.length (by omega) (by omega) (by omega) (fun k _ h => by omega) (fun k hk h => by omega)
/-! #### things in the order of a text of theirs -/
def Srt {t : Ty} (key : t.den → ByteArray) (l : List t.den) : Prop := ∀ (i j : Nat) (hi : i < l.length) (hj : j < l.length), i < j → cmp (key l[i]) (key l[j]) < 0
theorem srt_of {t : Ty} {key : t.den → ByteArray} {l : List t.den} (h : ∀ i, (hi : i + 1 < l.length) → cmp (key l[i]) (key l[i + 1]) < 0) : Srt key l := by
  intro i j hi hj hij
  induction j with
  | zero => omega
  | succ j ih =>
    rcases Nat.lt_or_ge i j with hlt | hge
    · exact cmp_trans (ih (by omega) hlt) (h j hj)
    · have : i = j := by omega
      subst this
      exact h i hj
theorem Srt.falls {t : Ty} {key : t.den → ByteArray} {l : List t.den} (h : Srt key l) (p : ByteArray) : Falls (fun x => cmp (key x) p) l :=
  fun i j hi hj hij hc => cmp_trans (h i j hi hj hij) hc
def plc {t : Ty} (key : t.den → ByteArray) (l : List t.den) (p : ByteArray) : Option Nat := l.findIdx? (fun x => decide (key x = p))
theorem At.plc {t : Ty} {key : t.den → ByteArray} {l : List t.den} (h : Srt key l) {p : ByteArray} {i : Nat} (ha : At (fun x => cmp (key x) p) l i) : plc key l p = if isAt (fun x => cmp (key x) p) l i then some i else none := by
  unfold Ev.plc isAt
  by_cases hi : i < l.length
  · rw [dif_pos hi]
    by_cases hc : cmp (key l[i]) p = 0
    · rw [decide_eq_true hc, if_pos rfl, List.findIdx?_eq_some_iff_getElem]
      refine ⟨hi, by rw [decide_eq_true_iff]; exact cmp_eq hc, fun j hj => ?_⟩
      have := ha.lo j (by omega) hj
      simp only [decide_eq_true_iff]
      intro he
      rw [he, cmp_self] at this
      omega
    · rw [decide_eq_false hc, if_neg (by simp), List.findIdx?_eq_none_iff]
      intro x hx
      obtain ⟨j, hj, rfl⟩ := List.getElem_of_mem hx
      rw [decide_eq_false_iff_not]
      rintro rfl
      rcases Nat.lt_trichotomy j i with hlt | rfl | hgt
      · have := ha.lo j hj hlt
        rw [cmp_self] at this; omega
      · exact hc (cmp_self _)
      · have h1 := h i j hi hj hgt
        exact ha.hi i hi (Nat.le_refl _) h1
  · rw [dif_neg hi, if_neg (by simp), List.findIdx?_eq_none_iff]
    intro x hx
    obtain ⟨j, hj, rfl⟩ := List.getElem_of_mem hx
    rw [decide_eq_false_iff_not]
    intro he
    have := ha.lo j hj (by omega)
    rw [he, cmp_self] at this
    omega
theorem row_find {t : Ty} {L : Int → Option Int} {q : t.den → Bool} {l : List t.den} (hl : l.length ≤ 1048576)
    (h0 : L (l.length : Int) = some (-1)) (h1 : ∀ (i : Nat) (hi : i < l.length), q l[i] = true → L i = some (i : Int)) (h2 : ∀ (i : Nat) (hi : i < l.length), q l[i] = false → L i = L ((i + 1 : Nat) : Int)) :
    ∀ (k i : Nat), i + k = l.length → (∀ j (hj : j < l.length), j < i → q l[j] = false) → L i = some (match l.findIdx? q with | some n => (n : Int) | none => -1)
  | 0, i, h, hb => by
    have : i = l.length := by omega
    subst this
    rw [h0]
    have : l.findIdx? q = none := by
      rw [List.findIdx?_eq_none_iff]
      intro x hx
      obtain ⟨j, hj, rfl⟩ := List.getElem_of_mem hx
      exact hb j hj hj
    rw [this]
  | k + 1, i, h, hb => by
    have hi : i < l.length := by omega
    cases hq : q l[i] with
    | true =>
      rw [h1 i hi hq]
      have : l.findIdx? q = some i := by
        rw [List.findIdx?_eq_some_iff_getElem]
        exact ⟨hi, hq, fun j hj => by rw [hb j (by omega) hj]; simp⟩
      rw [this]
    | false =>
      rw [h2 i hi hq]
      refine row_find hl h0 h1 h2 k (i + 1) (by omega) fun j hj hji => ?_
      rcases Nat.lt_or_ge j i with hlt | hge
      · exact hb j hj hlt
      · have : j = i := by omega
        subst this; exact hq
theorem row_find0 {t : Ty} {L : Int → Option Int} {q : t.den → Bool} {l : List t.den} (hl : l.length ≤ 1048576)
    (h0 : L (l.length : Int) = some (-1)) (h1 : ∀ (i : Nat) (hi : i < l.length), q l[i] = true → L i = some (i : Int)) (h2 : ∀ (i : Nat) (hi : i < l.length), q l[i] = false → L i = L ((i + 1 : Nat) : Int)) :
    L 0 = some (match l.findIdx? q with | some n => (n : Int) | none => -1) := row_find hl h0 h1 h2 l.length 0 (by omega) fun j _ h => by omega
abbrev oid (o : T_Object.den) : ByteArray := o.1
theorem okObj {o : T_Object.den} (hd : dc o.2.1 o.2.2.1 = 0) : 1 ≤ o.2.1 ∧ o.2.1 ≤ 3 ∧ tf o.2.2.1 = 0 := by
  unfold dc at hd
  split at hd
  · rename_i h; exact ⟨h.1, h.2, hd⟩
  · omega
structure OkStore (l : List T_Object.den) : Prop where
  len : l.length ≤ 200
  obj : ∀ o ∈ l, dc o.2.1 o.2.2.1 = 0 ∧ idB o.2.1 o.2.2.1 = o.1
  srt : Srt (t := T_Object) oid l
theorem store_ok_loop (l : List T_Object.den) (hl : l.length ≤ 1048576) : ∀ (k i : Nat), i + k = l.length → spec_StoreFault_L4.s l i = some 0 →
    ∀ j (hj : j < l.length), i ≤ j → (dc (l[j] : T_Object.den).2.1 (l[j] : T_Object.den).2.2.1 = 0 ∧ idB (l[j] : T_Object.den).2.1 (l[j] : T_Object.den).2.2.1 = (l[j] : T_Object.den).1) ∧ (0 < j → cmp (oid (l[j - 1]'(by omega))) (oid l[j]) < 0)
  | 0, i, h, _, j, hj, hij => by omega
  | k + 1, i, h, hs, j, hj, hij => by
    have hi : i < l.length := by omega
    rw [spec_StoreFault_L4.e] at hs
    simp (disch := omega) only [if_pos, wrap_succ, spec_idOf, Option.bind_some, Int.toNat_natCast, nth_at hi] at hs
    by_cases hd : dc (l[i] : T_Object.den).2.1 (l[i] : T_Object.den).2.2.1 = 0
    · simp only [if_pos hd, if_true] at hs
      by_cases hid : idB (l[i] : T_Object.den).2.1 (l[i] : T_Object.den).2.2.1 = (l[i] : T_Object.den).1
      · simp only [if_pos hid] at hs
        by_cases h0 : (i : Int) > 0
        · simp (disch := omega) only [if_pos, wrap_pred] at hs
          split at hs
          · simp at hs
          · rename_i hlt
            have hl1 : i - 1 < l.length := by omega
            simp only [Int.toNat_natCast, nth_at hl1] at hlt
            rcases Nat.eq_or_lt_of_le hij with rfl | hlt'
            · exact ⟨⟨hd, hid⟩, fun _ => not_le hlt⟩
            · exact store_ok_loop l hl k (i + 1) (by omega) hs j hj hlt'
        · simp only [if_neg h0] at hs
          rcases Nat.eq_or_lt_of_le hij with rfl | hlt'
          · exact ⟨⟨hd, hid⟩, fun h => by omega⟩
          · exact store_ok_loop l hl k (i + 1) (by omega) hs j hj hlt'
      · simp only [if_neg hid] at hs
        simp at hs
    · simp only [if_neg hd] at hs
      exact absurd (Option.some.inj hs) hd
theorem store_ok {l : List T_Object.den} (h : storeFault l = 0) (hl : l.length ≤ 1048576) : OkStore l := by
  have hs := (storeFault_all l hl).1
  rw [h, spec_StoreFault.e] at hs
  split at hs
  · simp at hs
  · have hall := store_ok_loop l hl l.length 0 (by omega) hs
    refine ⟨by omega, fun o ho => ?_, srt_of fun i hi => ?_⟩
    · obtain ⟨j, hj, rfl⟩ := List.getElem_of_mem ho
      exact (hall j hj (Nat.zero_le _)).1
    · exact (hall (i + 1) hi (Nat.zero_le _)).2 (by omega)
theorem plc_lt {t : Ty} {key : t.den → ByteArray} {l : List t.den} {p : ByteArray} {i : Nat} (h : plc key l p = some i) : i < l.length := (List.findIdx?_eq_some_iff_getElem.1 h).1
theorem cmp_s (a b : ByteArray) : strings_Compare.s a b = some (cmp a b) := by
  rw [strings_Compare.e, bytealg_CompareString.e, Option.bind_some]; rfl
theorem impl_find_s {l : List T_Object.den} (h : OkStore l) (id : ByteArray) : ∃ i, At (t := T_Object) (fun o => cmp (oid o) id) l i ∧ impl_find.s l id = some ((i : Int), isAt (t := T_Object) (fun o => cmp (oid o) id) l i) := by
  obtain ⟨i, h1, h2⟩ := bs_all (t := T_Object) (C := impl_find_1.s) slices_BinarySearchFunc___impl_Object_impl_Object_string__L3.e (c := fun o => cmp (oid o) id) (p := id) (l := l) (fun x _ => by rw [impl_find_1.e, cmp_s, Option.bind_some]) (h.srt.falls id) (by have := h.len; omega)
  refine ⟨i, h1, ?_⟩
  rw [impl_find.e, slices_BinarySearchFunc___impl_Object_impl_Object_string_.e, h2, Option.bind_some]
theorem spec_find_s (l : List T_Object.den) (hl : l.length ≤ 1048576) (id : ByteArray) : spec_l5Find.s l id = some (match plc (t := T_Object) oid l id with | some n => (n : Int) | none => -1) := by
  rw [spec_l5Find.e]
  refine row_find0 (t := T_Object) (q := fun o => decide (oid o = id)) hl ?_ (fun i hi hq => ?_) (fun i hi hq => ?_)
  · rw [spec_l5Find_L2.e, if_neg (by omega)]
  · rw [spec_l5Find_L2.e]
    simp (disch := omega) only [if_pos, Int.toNat_natCast, nth_at hi]
    rw [if_pos (of_decide_eq_true hq)]
  · rw [spec_l5Find_L2.e]
    simp (disch := omega) only [if_pos, Int.toNat_natCast, nth_at hi, wrap_succ]
    rw [if_neg (of_decide_eq_false hq)]
def getO (l : List T_Object.den) (k : Int) (id : ByteArray) : ByteArray × Bool := match plc (t := T_Object) oid l id with
  | some i => if (nth T_Object l i).2.1 = k then ((nth T_Object l i).2.2.1, true) else (noS, false)
  | none => (noS, false)
theorem impl_get_s {l : List T_Object.den} (h : OkStore l) (k : Int) (id : ByteArray) : impl_get.s l k id = some (getO l k id) := by
  obtain ⟨i, h1, h2⟩ := impl_find_s h id
  rw [impl_get.e, h2, Option.bind_some]
  unfold getO
  rw [h1.plc h.srt]
  cases hc : isAt (t := T_Object) (fun o => cmp (oid o) id) l i with
  | false => rfl
  | true =>
    have hi : i < l.length := by
      unfold isAt at hc
      split at hc
      · assumption
      · cases hc
    have hb : (0 : Int) ≤ (i : Int) ∧ (i : Int) < (l.length : Int) := by omega
    simp only [if_true, if_pos hb, Int.toNat_natCast]
    split <;> rfl
theorem spec_get_s (l : List T_Object.den) (hl : l.length ≤ 1048576) (k : Int) (id : ByteArray) : spec_l5Get.s l k id = some (getO l k id) := by
  rw [spec_l5Get.e, spec_find_s l hl, Option.bind_some]
  unfold getO
  cases hp : plc (t := T_Object) oid l id with
  | none => rfl
  | some i =>
    have hi := plc_lt hp
    have hb : (0 : Int) ≤ (i : Int) ∧ (i : Int) < (l.length : Int) := by omega
    have hn : ¬ ((i : Int) < 0) := by omega
    simp only [if_neg hn, if_pos hb, Int.toNat_natCast]
    split <;> rfl
def plcI (s : List T_Object.den) (id : ByteArray) : Nat := (s.takeWhile fun o => decide (cmp (oid o) id < 0)).length
theorem at_tw {t : Ty} {c : t.den → Int} : ∀ {l : List t.den} {i : Nat}, At c l i → (l.takeWhile fun x => decide (c x < 0)).length = i
  | [], i, h => by have := h.le; simp at this; simp [this]
  | a :: r, i, h => by
    cases i with
    | zero =>
      have := h.hi 0 (by simp) (Nat.le_refl _)
      have this : ¬ c a < 0 := this
      rw [List.takeWhile_cons, decide_eq_false this]; rfl
    | succ i =>
      have ha : c a < 0 := h.lo 0 (by simp) (by omega)
      rw [List.takeWhile_cons, decide_eq_true ha]
      have hr : At c r i := ⟨by have := h.le; simp at this; omega, fun k hk hki => h.lo (k + 1) (by simp; omega) (by omega), fun k hk hki => h.hi (k + 1) (by simp; omega) (by omega)⟩
      simp [at_tw hr]
noncomputable def putO (s : List T_Object.den) (k : Int) (d : ByteArray) : List T_Object.den × ByteArray × Int :=
  match plc (t := T_Object) oid s (idB k d) with
  | some i => if (nth T_Object s i).2.2.1 = d then (s, idB k d, 0) else ([], noS, 6)
  | none => if s.length ≥ 200 then ([], noS, 2) else (s.take (plcI s (idB k d)) ++ ((idB k d, k, d, ()) :: s.drop (plcI s (idB k d))), idB k d, 0)
theorem spec_copy5 (s : List T_Object.den) (hs : s.length ≤ 1048576) : spec_l5Copy.s s = some s := by
  rw [spec_l5Copy.e, if_pos (by simp; omega), List.nil_append]
theorem spec_put_loop (s : List T_Object.den) (hs : s.length ≤ 1048576) (k : Int) (d id : ByteArray) {p : Nat} (hp : At (t := T_Object) (fun o => cmp (oid o) id) s p) : ∀ (m i : Nat), i + m = p →
    spec_l5Put_L10.s s k d id i = some (s.take p ++ ((id, k, d, ()) :: s.drop p), id, 0)
  | 0, i, h => by
    have hi : i = p := by omega
    subst hi
    have hle := hp.le
    have hlen : (List.drop 0 (List.take i s)).length ≤ s.length := by simp; omega
    rw [spec_l5Put_L10.e]
    have hc5 := spec_copy5 (List.take i s) (by simp; omega)
    have htl : (List.take i s).length ≤ s.length := by simp; omega
    have hdl : (List.drop i s).length ≤ s.length := by simp
    by_cases h0 : (i : Int) < (s.length : Int)
    · have hi : i < s.length := by omega
      have hnb : ¬ BLt (s[i] : T_Object.den).1 id := by
        rw [blt_iff]
        exact hp.hi i hi (Nat.le_refl _)
      rw [if_pos h0, if_pos (by omega), Int.toNat_natCast, nth_at hi, if_neg hnb]
      simp (disch := (simp; omega)) only [hc5, Option.bind_some, if_pos, fill1, List.drop_zero, List.take_length, Int.toNat_natCast]
      simp
    · rw [if_neg h0]
      simp (disch := (simp; omega)) only [hc5, Option.bind_some, if_pos, fill1, List.drop_zero, List.take_length, Int.toNat_natCast]
      simp
  | m + 1, i, h => by
    have hi : i < s.length := by have := hp.le; omega
    have hb : BLt (s[i] : T_Object.den).1 id := by rw [blt_iff]; exact hp.lo i hi (by omega)
    rw [spec_l5Put_L10.e, if_pos (by omega), if_pos (by omega), Int.toNat_natCast, nth_at hi, if_pos hb, wrap_succ (by omega)]
    exact spec_put_loop s hs k d id hp m (i + 1) (by omega)
theorem at_of {s : List T_Object.den} (ho : OkStore s) (id : ByteArray) : ∃ i, At (t := T_Object) (fun o => cmp (oid o) id) s i := by
  obtain ⟨i, h, _⟩ := impl_find_s ho id
  exact ⟨i, h⟩
theorem spec_putO {s : List T_Object.den} (ho : OkStore s) (k : Int) (d : ByteArray) (h0 : 1 ≤ k) (h1 : k ≤ 3) (hd : d.size ≤ 4000000000) : spec_l5Put.s s k d = some (putO s k d) := by
  have hl : s.length ≤ 1048576 := by have := ho.len; omega
  rw [spec_l5Put.e, spec_id k d h0 h1 hd, Option.bind_some, spec_find_s s hl, Option.bind_some]
  unfold putO
  cases hp : plc (t := T_Object) oid s (idB k d) with
  | some i =>
    have hi := plc_lt hp
    have e1 : ((i : Nat) : Int) ≥ 0 := by omega
    have e2 : (0 : Int) ≤ (i : Int) ∧ (i : Int) < (s.length : Int) := by omega
    simp only [if_pos e1, if_pos e2, Int.toNat_natCast]
    by_cases hd' : (nth T_Object s i).2.2.1 = d
    · simp only [if_pos hd', spec_copy5 s hl, Option.bind_some]
    · simp only [if_neg hd']
  | none =>
    have e1 : ¬ ((-1 : Int) ≥ 0) := by omega
    simp only [if_neg e1]
    by_cases h200 : s.length ≥ 200
    · rw [if_pos (by omega), if_pos h200]
    · obtain ⟨p, hp⟩ := at_of ho (idB k d)
      have := spec_put_loop s hl k d (idB k d) hp p 0 (by omega)
      rw [if_neg (by omega), if_neg h200]
      have e : spec_l5Put_L10.s s k d (idB k d) 0 = _ := this
      rw [e]
      have hpl : plcI s (idB k d) = p := at_tw hp
      rw [hpl]
theorem srt_pw {t : Ty} {key : t.den → ByteArray} {l : List t.den} : Srt key l ↔ l.Pairwise fun x y => cmp (key x) (key y) < 0 := by
  rw [List.pairwise_iff_getElem]
  exact ⟨fun h i j hi hj hij => h i j hi hj hij, fun h i j hi hj hij => h i j hi hj hij⟩
theorem plc_none {t : Ty} {key : t.den → ByteArray} {l : List t.den} {p : ByteArray} (h : plc key l p = none) : ∀ x ∈ l, key x ≠ p := by
  intro x hx
  have := List.findIdx?_eq_none_iff.1 h x hx
  exact of_decide_eq_false this
theorem putO_ok {s : List T_Object.den} (ho : OkStore s) {k : Int} {d : ByteArray} (h0 : 1 ≤ k) (h1 : k ≤ 3) (hd : tf d = 0) (hc : (putO s k d).2.2 = 0) : OkStore (putO s k d).1 := by
  unfold putO at hc ⊢
  cases hp : plc (t := T_Object) oid s (idB k d) with
  | some i =>
    rw [hp] at hc
    simp only at hc ⊢
    split at hc
    · rename_i h; rw [if_pos h]; exact ho
    · cases hc
  | none =>
    rw [hp] at hc
    simp only at hc ⊢
    split at hc
    · cases hc
    · rename_i h200
      rw [if_neg h200]
      obtain ⟨p, hpa⟩ := at_of ho (idB k d)
      have hpl : plcI s (idB k d) = p := at_tw hpa
      rw [hpl]
      have hne := plc_none hp
      have hs := srt_pw.1 ho.srt
      refine ⟨by have := hpa.le; simp; omega, fun o hm => ?_, srt_pw.2 ?_⟩
      · rcases List.mem_append.1 hm with hm | hm
        · exact ho.obj o (List.mem_of_mem_take hm)
        · rcases List.mem_cons.1 hm with rfl | hm
          · exact ⟨by show dc k d = 0; unfold dc; rw [if_pos ⟨h0, h1⟩]; exact hd, rfl⟩
          · exact ho.obj o (List.mem_of_mem_drop hm)
      · rw [← List.take_append_drop p s, List.pairwise_append] at hs
        rw [List.pairwise_append, List.pairwise_cons]
        have hlo : ∀ x ∈ s.take p, cmp (oid x) (idB k d) < 0 := by
          intro x hx
          obtain ⟨j, hj, rfl⟩ := List.getElem_of_mem hx
          rw [List.getElem_take]
          have hj' := hj
          simp at hj'
          exact hpa.lo j (by omega) (by omega)
        have hhi : ∀ y ∈ s.drop p, cmp (idB k d) (oid y) < 0 := by
          intro y hy
          obtain ⟨j, hj, rfl⟩ := List.getElem_of_mem hy
          rw [List.getElem_drop]
          have hj' := hj
          simp at hj'
          exact cmp_flip (hpa.hi (p + j) (by omega) (by omega)) (hne _ (List.getElem_mem _))
        refine ⟨hs.1, ⟨fun y hy => hhi y hy, hs.2.1⟩, fun x hx y hy => ?_⟩
        rcases List.mem_cons.1 hy with rfl | hy
        · exact hlo x hx
        · exact hs.2.2 x hx y hy
theorem clone_o (l : List T_Object.den) (hl : l.length ≤ 1048576) : slices_Clone___impl_Object_impl_Object_.s l = some l := by
  rw [slices_Clone___impl_Object_impl_Object_.e]
  by_cases h : l.length = 0
  · have : l = [] := List.eq_nil_of_length_eq_zero h
    subst this
    rw [if_pos h]
    unfold joinO
    exact if_pos rfl
  · rw [if_neg h, if_pos (by omega), List.nil_append]
theorem impl_putO {s : List T_Object.den} (ho : OkStore s) (k : Int) (d : ByteArray) (h0 : 1 ≤ k) (h1 : k ≤ 3) (hd : d.size ≤ 4000000000) : impl_put.s s k d = some ((putO s k d).2.2, (putO s k d).2.1, (putO s k d).1, ()) := by
  have hl : s.length ≤ 1048576 := by have := ho.len; omega
  obtain ⟨i, hi, hf⟩ := impl_find_s ho (idB k d)
  rw [impl_put.e, impl_id k d h0 h1 hd, Option.bind_some, hf, Option.bind_some]
  have hle := hi.le
  have hpl := hi.plc ho.srt
  unfold putO
  rw [hpl]
  cases hc : isAt (t := T_Object) (fun o => cmp (oid o) (idB k d)) s i with
  | true =>
    have hlt : i < s.length := by
      unfold isAt at hc
      split at hc
      · assumption
      · cases hc
    have c1 : (0 : Int) ≤ (i : Int) ∧ (i : Int) < (s.length : Int) := by omega
    simp only [if_true, if_pos c1, Int.toNat_natCast, clone_o s hl, Option.bind_some]
    by_cases hd' : (nth T_Object s i).2.2.1 = d
    · simp only [if_pos hd']
    · simp only [if_neg hd']
  | false =>
    have hpi : plcI s (idB k d) = i := at_tw hi
    simp only [Bool.false_eq_true, if_false, hpi]
    by_cases h200 : s.length ≥ 200
    · have : (s.length : Int) = 200 := by have := ho.len; omega
      rw [if_pos this, if_pos h200]
    · have h3 : ¬ (s.length : Int) = 200 := by omega
      simp only [if_neg h3, if_neg h200, clone_o s hl, Option.bind_some, fill1]
      have h5 : (0 : Nat) < [((idB k d, k, d, ()) : T_Object.den)].length ∧ (0 : Int) ≤ (i : Int) ∧ (i : Int) ≤ (s.length : Int) ∧ s.length + [((idB k d, k, d, ()) : T_Object.den)].length < 4294967296 := ⟨by simp, by omega, by omega, by simp; omega⟩
      refine (if_pos h5).trans ?_
      simp
/-! #### a text with a byte 0 -/
def isBin (s : ByteArray) : Bool := s.data.toList.contains 0
theorem spec_bin (s : ByteArray) (hs : s.size ≤ 4000000000) : spec_IsBinary.s s = some (isBin s) := by
  have key : ∀ (D : List UInt8), D.length ≤ 4000000000 → ∀ (k i : Nat), i + k = D.length → spec_IsBinary_L2.s (ba D) i = some ((D.drop i).contains 0) := by
    intro D hD k
    induction k with
    | zero =>
      intro i h
      rw [spec_IsBinary_L2.e, if_neg (by rw [ba_size]; omega), List.drop_eq_nil_of_le (by omega)]; rfl
    | succ k ih =>
      intro i h
      have hi : i < D.length := by omega
      rw [spec_IsBinary_L2.e, if_pos (by rw [ba_size]; omega), if_pos (by rw [ba_size]; omega), Int.toNat_natCast, ba_byte hi, List.drop_eq_getElem_cons hi, List.contains_cons]
      by_cases h0 : D[i] = 0
      · have : ((D[i].toNat : Nat) : Int) = 0 := by rw [h0]; rfl
        rw [if_pos this, h0]; rfl
      · have hn : ¬ ((D[i].toNat : Nat) : Int) = 0 := fun e => h0 (UInt8.toNat_inj.1 (by show _ = 0; omega))
        have hb : ((0 : UInt8) == D[i]) = false := by rw [beq_eq_false_iff_ne]; exact fun e => h0 e.symm
        rw [if_neg hn, wrap_succ (by omega), ih (i + 1) (by omega), hb, Bool.false_or]
  have h1 : s.size = s.data.toList.length := Go.Lib.size_eq s
  have := key s.data.toList (by omega) s.data.toList.length 0 (by omega)
  rw [ba_self, List.drop_zero] at this
  rw [spec_IsBinary.e]
  exact this
theorem index0 : ∀ l : List UInt8, (Go.Lib.indexByte l 0 = -1 ∧ l.contains 0 = false) ∨ (0 ≤ Go.Lib.indexByte l 0 ∧ l.contains 0 = true)
  | [] => .inl ⟨rfl, rfl⟩
  | a :: r => by
    unfold Go.Lib.indexByte
    rw [List.contains_cons]
    by_cases h : a = 0
    · subst h; exact .inr ⟨by simp, rfl⟩
    · have hb : ((0 : UInt8) == a) = false := by rw [beq_eq_false_iff_ne]; exact fun e => h e.symm
      have hb' : (a == (0 : UInt8)) = false := by rw [beq_eq_false_iff_ne]; exact h
      rw [hb, hb', Bool.false_or]
      rcases index0 r with ⟨h1, h2⟩ | ⟨h1, h2⟩
      · rw [h1, h2]; exact .inl ⟨rfl, rfl⟩
      · have hn : (Go.Lib.indexByte r 0 == -1) = false := by rw [beq_eq_false_iff_ne]; omega
        rw [hn, h2]; refine .inr ⟨?_, rfl⟩
        simp; omega
theorem impl_bin (s : ByteArray) : impl_IsBinary.s s = some (isBin s) := by
  rw [impl_IsBinary.e, strings_IndexByte.e, stringslite_IndexByte.e]
  simp only [Option.bind_some]
  congr 1
  show decide (Go.Lib.indexByte s.data.toList 0 ≥ 0) = _
  unfold isBin
  rcases index0 s.data.toList with ⟨h1, h2⟩ | ⟨h1, h2⟩
  · rw [h1, h2]; rfl
  · rw [h2]; exact decide_eq_true h1
def zF : T_File.den := (noS, (0 : Int), noS, ())
def zeroF (f : T_File.den) : Prop := f.1 = noS ∧ f.2.1 = 0 ∧ f.2.2.1 = noS
instance (f : T_File.den) : Decidable (zeroF f) := by unfold zeroF; infer_instance
theorem zeroF_z : zeroF zF := ⟨rfl, rfl, rfl⟩
theorem bulk_le {t : Ty} {l : List t.den} {B : Nat} (h : ∀ x ∈ l, bulk t x ≤ B) : bulk (.sl t) l ≤ l.length * (B + 1) := by
  show l.length + (l.map (bulk t)).sum ≤ l.length * (B + 1)
  induction l with
  | nil => simp
  | cons a r ih =>
    have h1 := h a (by simp)
    have h2 := ih fun x hx => h x (by simp [hx])
    simp only [List.length_cons, List.map_cons, List.sum_cons, Nat.succ_mul]
    omega
theorem idB_size (k : Int) (d : ByteArray) : (idB k d).size = 5 := by unfold idB; rw [ba_size]; rfl
theorem bulk_store {s : List T_Object.den} (hs : OkStore s) : bulk (.sl T_Object) s ≤ 600200 := by
  have h1 : bulk (.sl T_Object) s ≤ s.length * (3000 + 1) := bulk_le fun o ho => by
    obtain ⟨h1, h2⟩ := hs.obj o ho
    have h3 := tf_size (okObj h1).2.2
    have h4 : (o.1 : ByteArray).size = 5 := by rw [← h2]; exact idB_size _ _
    show (o.1 : ByteArray).size + (0 + ((o.2.2.1 : ByteArray).size + 0)) ≤ 3000
    omega
  have h3 : s.length * (3000 + 1) ≤ 200 * 3001 := Nat.mul_le_mul_right _ hs.len
  omega
end Go.Proofs.YtmojilihllhadaaGreatDoor.Ev
