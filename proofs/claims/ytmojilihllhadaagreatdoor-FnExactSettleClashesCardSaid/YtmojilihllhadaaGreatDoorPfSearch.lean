/- Search by halves, search in a row. -/
import Derived.Test.YtmojilihllhadaaGreatDoorPfOrd
set_option linter.unusedVariables false
set_option linter.unusedSimpArgs false
namespace Go.Proofs.YtmojilihllhadaaGreatDoor.Ev
open Go

theorem mid_eq {i j : Nat} (h : i + j < 4611686018427387904) : IntKind.i64.wrap ((IntKind.u64.wrap (IntKind.i64.wrap ((i : Int) + (j : Int)))).fdiv ((2 : Int) ^ min (Int.toNat (1 : Int)) IntKind.u64.bits)) = (((i + j) / 2 : Nat) : Int) := by
  have h1 : IntKind.i64.wrap ((i : Int) + (j : Int)) = ((i + j : Nat) : Int) := by rw [wrap_id (by omega) (by omega)]; omega
  have h2 : IntKind.u64.wrap ((i + j : Nat) : Int) = ((i + j : Nat) : Int) := by
    unfold IntKind.wrap
    have e1 : (2 : Int) ^ IntKind.u64.bits = 18446744073709551616 := rfl
    have e2 : IntKind.u64.signed = false := rfl
    simp only [e1, e2, Bool.false_and, Bool.false_eq_true, if_false]
    omega
  have h3 : ((2 : Int) ^ min (Int.toNat (1 : Int)) IntKind.u64.bits) = 2 := rfl
  rw [h1, h2, h3]
  have h4 : ((i + j : Nat) : Int).fdiv 2 = (((i + j) / 2 : Nat) : Int) := by rw [Int.fdiv_eq_ediv_of_nonneg _ (by omega)]; omega
  rw [h4, wrap_nat (by omega)]

/-- the place where search by halves ends: all ahead of it are below, none behind it -/
structure At {t : Ty} (c : t.den → Int) (l : List t.den) (i : Nat) : Prop where
  le : i ≤ l.length
  lo : ∀ k, (hk : k < l.length) → k < i → c l[k] < 0
  hi : ∀ k, (hk : k < l.length) → i ≤ k → ¬ c l[k] < 0
theorem At.unique {t : Ty} {c : t.den → Int} {l : List t.den} {i j : Nat} (h : At c l i) (k : At c l j) : i = j := by
  rcases Nat.lt_trichotomy i j with hlt | rfl | hgt
  · exact absurd (k.lo i (by have := k.le; omega) hlt) (h.hi i (by have := k.le; omega) (Nat.le_refl _))
  · rfl
  · exact absurd (h.lo j (by have := h.le; omega) hgt) (k.hi j (by have := h.le; omega) (Nat.le_refl _))
def isAt {t : Ty} (c : t.den → Int) (l : List t.den) (i : Nat) : Bool := if h : i < l.length then decide (c l[i] = 0) else false
def Falls {t : Ty} (c : t.den → Int) (l : List t.den) : Prop := ∀ i j (hi : i < l.length) (hj : j < l.length), i < j → c l[j] < 0 → c l[i] < 0
/-- the equation of the loop of slices.BinarySearchFunc -/
def BsEq {t : Ty} {κ : Type} (C : t.den → κ → Option Int) (L : List t.den → κ → Int → Int → Int → Option (Int × Bool)) : Prop :=
  ∀ (xl0 : List t.den) (xs1 : κ) (xi2 xi3 xi4 : Int), L xl0 xs1 xi2 xi3 xi4 = if (xi3 < xi4) then if ((0 : Int) ≤ IntKind.i64.wrap ((IntKind.u64.wrap (IntKind.i64.wrap (xi3 + xi4))).fdiv ((2 : Int) ^ min (Int.toNat (1 : Int)) IntKind.u64.bits)) ∧ IntKind.i64.wrap ((IntKind.u64.wrap (IntKind.i64.wrap (xi3 + xi4))).fdiv ((2 : Int) ^ min (Int.toNat (1 : Int)) IntKind.u64.bits)) < (↑xl0.length : Int)) then (C (nth t xl0 (IntKind.i64.wrap ((IntKind.u64.wrap (IntKind.i64.wrap (xi3 + xi4))).fdiv ((2 : Int) ^ min (Int.toNat (1 : Int)) IntKind.u64.bits))).toNat) xs1).bind fun r0 => if (r0 < (0 : Int)) then L xl0 xs1 xi2 (IntKind.i64.wrap (IntKind.i64.wrap ((IntKind.u64.wrap (IntKind.i64.wrap (xi3 + xi4))).fdiv ((2 : Int) ^ min (Int.toNat (1 : Int)) IntKind.u64.bits)) + (1 : Int))) xi4 else L xl0 xs1 xi2 xi3 (IntKind.i64.wrap ((IntKind.u64.wrap (IntKind.i64.wrap (xi3 + xi4))).fdiv ((2 : Int) ^ min (Int.toNat (1 : Int)) IntKind.u64.bits))) else none else if (xi3 < xi2) then if ((0 : Int) ≤ xi3 ∧ xi3 < (↑xl0.length : Int)) then (C (nth t xl0 xi3.toNat) xs1).bind fun r1 => some (xi3, r1 == (0 : Int)) else none else some (xi3, false)

theorem bs_loop {t : Ty} {κ : Type} {C : t.den → κ → Option Int} {L : List t.den → κ → Int → Int → Int → Option (Int × Bool)} (hL : BsEq C L) {c : t.den → Int} {p : κ} {l : List t.den} (hC : ∀ x ∈ l, C x p = some (c x)) (hf : Falls c l) (hl : l.length ≤ 1048576) : ∀ (m i j : Nat), j - i ≤ m → i ≤ j → j ≤ l.length →
    (∀ k, (hk : k < l.length) → k < i → c l[k] < 0) → (∀ k, (hk : k < l.length) → j ≤ k → ¬ c l[k] < 0) →
    ∃ i', At c l i' ∧ L l p (l.length : Int) (i : Int) (j : Int) = some ((i' : Int), isAt c l i')
  | m, i, j, hm, hij, hj, hlo, hhi => by
    rcases Nat.eq_or_lt_of_le hij with rfl | hlt
    · refine ⟨i, ⟨hj, hlo, hhi⟩, ?_⟩
      rw [hL]
      unfold isAt
      by_cases h : i < l.length
      · simp (disch := omega) only [if_pos, if_neg, dif_pos h, Int.toNat_natCast, nth_at h, hC _ (List.getElem_mem h), Option.bind_some]
        congr 2
      · simp (disch := omega) only [if_neg, dif_neg h]
    · cases m with
      | zero => omega
      | succ m =>
        have hmid : (i + j) / 2 < l.length := by omega
        have hm2 := mid_eq (i := i) (j := j) (by omega)
        rw [hL]
        simp (disch := omega) only [hm2, if_pos, Int.toNat_natCast, nth_at hmid, hC _ (List.getElem_mem hmid), Option.bind_some, wrap_succ]
        by_cases hc : c l[(i + j) / 2] < 0
        · simp only [if_pos hc]
          exact bs_loop hL hC hf hl m ((i + j) / 2 + 1) j (by omega) (by omega) hj (fun k hk hk2 => by
            rcases Nat.lt_or_ge k ((i + j) / 2) with h | h
            · exact hf k _ hk hmid h hc
            · have : k = (i + j) / 2 := by omega
              subst this; exact hc) hhi
        · simp only [if_neg hc]
          exact bs_loop hL hC hf hl m i ((i + j) / 2) (by omega) (by omega) (by omega) hlo (fun k hk hk2 hlt => by
            rcases Nat.eq_or_lt_of_le hk2 with rfl | h
            · exact hc hlt
            · exact hc (hf _ k hmid hk h hlt))
theorem bs_all {t : Ty} {κ : Type} {C : t.den → κ → Option Int} {L : List t.den → κ → Int → Int → Int → Option (Int × Bool)} (hL : BsEq C L) {c : t.den → Int} {p : κ} {l : List t.den} (hC : ∀ x ∈ l, C x p = some (c x)) (hf : Falls c l) (hl : l.length ≤ 1048576) :
    ∃ i', At c l i' ∧ L l p (l.length : Int) (0 : Int) (l.length : Int) = some ((i' : Int), isAt c l i') :=
  bs_loop hL hC hf hl l.length 0 l.length (by omega) (by omega) (by omega) (fun k _ h => by omega) (fun k hk h => by omega)

/-! #### things in the order of a text of theirs -/
def Srt {t : Ty} (key : t.den → ByteArray) (l : List t.den) : Prop := ∀ (i j : Nat) (hi : i < l.length) (hj : j < l.length), i < j → cmp (key l[i]) (key l[j]) < 0
theorem srt_of {t : Ty} {key : t.den → ByteArray} {l : List t.den} (h : ∀ i, (hi : i + 1 < l.length) → cmp (key l[i]) (key l[i + 1]) < 0) : Srt key l := by
  intro i j hi hj hij
  induction j with
  | zero => omega
  | succ j ih =>
    rcases Nat.lt_or_ge i j with hlt | hge
    · exact cmp_trans (ih (by omega) hlt) (h j hj)
    · have : i = j := by omega
      subst this
      exact h i hj
theorem Srt.falls {t : Ty} {key : t.den → ByteArray} {l : List t.den} (h : Srt key l) (p : ByteArray) : Falls (fun x => cmp (key x) p) l :=
  fun i j hi hj hij hc => cmp_trans (h i j hi hj hij) hc
/-- the place of a key, or none -/
def plc {t : Ty} (key : t.den → ByteArray) (l : List t.den) (p : ByteArray) : Option Nat := l.findIdx? (fun x => decide (key x = p))
theorem At.plc {t : Ty} {key : t.den → ByteArray} {l : List t.den} (h : Srt key l) {p : ByteArray} {i : Nat} (ha : At (fun x => cmp (key x) p) l i) : plc key l p = if isAt (fun x => cmp (key x) p) l i then some i else none := by
  unfold Ev.plc isAt
  by_cases hi : i < l.length
  · rw [dif_pos hi]
    by_cases hc : cmp (key l[i]) p = 0
    · rw [decide_eq_true hc, if_pos rfl, List.findIdx?_eq_some_iff_getElem]
      refine ⟨hi, by rw [decide_eq_true_iff]; exact cmp_eq hc, fun j hj => ?_⟩
      have := ha.lo j (by omega) hj
      simp only [decide_eq_true_iff]
      intro he
      rw [he, cmp_self] at this
      omega
    · rw [decide_eq_false hc, if_neg (by simp), List.findIdx?_eq_none_iff]
      intro x hx
      obtain ⟨j, hj, rfl⟩ := List.getElem_of_mem hx
      rw [decide_eq_false_iff_not]
      rintro rfl
      rcases Nat.lt_trichotomy j i with hlt | rfl | hgt
      · have := ha.lo j hj hlt
        rw [cmp_self] at this; omega
      · exact hc (cmp_self _)
      · have h1 := h i j hi hj hgt
        exact ha.hi i hi (Nat.le_refl _) h1
  · rw [dif_neg hi, if_neg (by simp), List.findIdx?_eq_none_iff]
    intro x hx
    obtain ⟨j, hj, rfl⟩ := List.getElem_of_mem hx
    rw [decide_eq_false_iff_not]
    intro he
    have := ha.lo j hj (by omega)
    rw [he, cmp_self] at this
    omega

/-- a search in a row that hands back a place or -1 -/
theorem row_find {t : Ty} {L : Int → Option Int} {q : t.den → Bool} {l : List t.den} (hl : l.length ≤ 1048576)
    (h0 : L (l.length : Int) = some (-1)) (h1 : ∀ (i : Nat) (hi : i < l.length), q l[i] = true → L i = some (i : Int)) (h2 : ∀ (i : Nat) (hi : i < l.length), q l[i] = false → L i = L ((i + 1 : Nat) : Int)) :
    ∀ (k i : Nat), i + k = l.length → (∀ j (hj : j < l.length), j < i → q l[j] = false) → L i = some (match l.findIdx? q with | some n => (n : Int) | none => -1)
  | 0, i, h, hb => by
    have : i = l.length := by omega
    subst this
    rw [h0]
    have : l.findIdx? q = none := by
      rw [List.findIdx?_eq_none_iff]
      intro x hx
      obtain ⟨j, hj, rfl⟩ := List.getElem_of_mem hx
      exact hb j hj hj
    rw [this]
  | k + 1, i, h, hb => by
    have hi : i < l.length := by omega
    cases hq : q l[i] with
    | true =>
      rw [h1 i hi hq]
      have : l.findIdx? q = some i := by
        rw [List.findIdx?_eq_some_iff_getElem]
        exact ⟨hi, hq, fun j hj => by rw [hb j (by omega) hj]; simp⟩
      rw [this]
    | false =>
      rw [h2 i hi hq]
      refine row_find hl h0 h1 h2 k (i + 1) (by omega) fun j hj hji => ?_
      rcases Nat.lt_or_ge j i with hlt | hge
      · exact hb j hj hlt
      · have : j = i := by omega
        subst this; exact hq
theorem row_find0 {t : Ty} {L : Int → Option Int} {q : t.den → Bool} {l : List t.den} (hl : l.length ≤ 1048576)
    (h0 : L (l.length : Int) = some (-1)) (h1 : ∀ (i : Nat) (hi : i < l.length), q l[i] = true → L i = some (i : Int)) (h2 : ∀ (i : Nat) (hi : i < l.length), q l[i] = false → L i = L ((i + 1 : Nat) : Int)) :
    L 0 = some (match l.findIdx? q with | some n => (n : Int) | none => -1) := row_find hl h0 h1 h2 l.length 0 (by omega) fun j _ h => by omega
end Go.Proofs.YtmojilihllhadaaGreatDoor.Ev
