/- Rules are found: the order of texts, search by halves and search in a row. -/
import Derived.Test.YtjklgmflillagaaDoorPfRulesFault
set_option linter.unusedVariables false
set_option linter.unusedSimpArgs false
namespace Go.Proofs.YtjklgmflillagaaDoor.Ev
open Go

/-! #### the order of texts -/
def cmp (a b : ByteArray) : Int := Go.Lib.compareBytes a.data.toList b.data.toList
theorem cb_trans : ∀ (a b c : List UInt8), Go.Lib.compareBytes a b < 0 → Go.Lib.compareBytes b c < 0 → Go.Lib.compareBytes a c < 0
  | [], _, [], h1, h2 => by cases ‹List UInt8› <;> simp [Go.Lib.compareBytes] at h1 h2
  | [], _, _ :: _, _, _ => by simp [Go.Lib.compareBytes]
  | _ :: _, [], _, h1, _ => by simp [Go.Lib.compareBytes] at h1
  | _ :: _, _ :: _, [], _, h2 => by simp [Go.Lib.compareBytes] at h2
  | x :: a, y :: b, z :: c, h1, h2 => by
    unfold Go.Lib.compareBytes at h1 h2 ⊢
    simp only [UInt8.lt_iff_toNat_lt] at h1 h2 ⊢
    split at h1
    · split at h2
      · rw [if_pos (by omega)]; omega
      · split at h2
        · omega
        · rw [if_pos (by omega)]; omega
    · split at h1
      · omega
      · split at h2
        · rw [if_pos (by omega)]; omega
        · split at h2
          · omega
          · rw [if_neg (by omega), if_neg (by omega)]
            exact cb_trans a b c h1 h2
theorem cb_self : ∀ (a : List UInt8), Go.Lib.compareBytes a a = 0
  | [] => rfl
  | x :: a => by
    unfold Go.Lib.compareBytes
    rw [if_neg (UInt8.lt_irrefl x), if_neg (UInt8.lt_irrefl x)]; exact cb_self a
theorem cb_zero : ∀ (a b : List UInt8), Go.Lib.compareBytes a b = 0 → a = b
  | [], [], _ => rfl
  | [], _ :: _, h => by simp [Go.Lib.compareBytes] at h
  | _ :: _, [], h => by simp [Go.Lib.compareBytes] at h
  | x :: a, y :: b, h => by
    unfold Go.Lib.compareBytes at h
    split at h
    · omega
    · split at h
      · omega
      · rename_i h1 h2
        have : x = y := by
          simp only [UInt8.lt_iff_toNat_lt] at h1 h2
          exact UInt8.toNat_inj.1 (by omega)
        rw [this, cb_zero a b h]
theorem cb_less : ∀ (a b : List UInt8), Op.bytesLess a b = decide (Go.Lib.compareBytes a b < 0)
  | [], [] => rfl
  | [], _ :: _ => by simp [Op.bytesLess, Go.Lib.compareBytes]
  | _ :: _, [] => by simp [Op.bytesLess, Go.Lib.compareBytes]
  | x :: a, y :: b => by
    have ih := cb_less a b
    unfold Op.bytesLess Go.Lib.compareBytes
    by_cases h : x < y
    · simp [h]
    · by_cases h2 : y < x
      · have hne : x ≠ y := by rintro rfl; exact UInt8.lt_irrefl x h2
        simp [h, h2, hne]
      · have : x = y := by
          simp only [UInt8.lt_iff_toNat_lt] at h h2
          exact UInt8.toNat_inj.1 (by omega)
        subst this
        simp [h, ih]
theorem cb_flip : ∀ (a b : List UInt8), ¬ Go.Lib.compareBytes a b < 0 → a ≠ b → Go.Lib.compareBytes b a < 0
  | [], [], _, h => absurd rfl h
  | [], _ :: _, h, _ => by simp [Go.Lib.compareBytes] at h
  | _ :: _, [], _, _ => by simp [Go.Lib.compareBytes]
  | x :: a, y :: b, h, hne => by
    unfold Go.Lib.compareBytes at h ⊢
    simp only [UInt8.lt_iff_toNat_lt] at h ⊢
    split at h
    · omega
    · split at h
      · rw [if_pos (by omega)]; omega
      · rw [if_neg (by omega), if_neg (by omega)]
        refine cb_flip a b h ?_
        rintro rfl
        have : x = y := UInt8.toNat_inj.1 (by omega)
        subst this
        exact hne rfl
theorem cmp_eq {a b : ByteArray} (h : cmp a b = 0) : a = b := by
  have := cb_zero _ _ h
  rw [← ba_self a, ← ba_self b, this]

/-- the rules are in order -/
def Srt (l : List T_Rule.den) : Prop := ∀ (i j : Nat) (hi : i < l.length) (hj : j < l.length), i < j → cmp (l[i] : T_Rule.den).1 (l[j] : T_Rule.den).1 < 0
theorem srt_of {l : List T_Rule.den} (h : ∀ i, (hi : i + 1 < l.length) → cmp (l[i] : T_Rule.den).1 (l[i + 1] : T_Rule.den).1 < 0) : Srt l := by
  intro i j hi hj hij
  induction j with
  | zero => omega
  | succ j ih =>
    rcases Nat.lt_or_ge i j with hlt | hge
    · exact cb_trans _ _ _ (ih (by omega) hlt) (h j hj)
    · have : i = j := by omega
      subst this
      exact h i hj

/-! #### rules without fault are in order -/
theorem loop_sorted (l : List T_Rule.den) (hl : l.length ≤ 1048576) : ∀ (k i : Nat), i + k = l.length → Says (fun n => spec_RulesFault_L4 n l (i : Int)) 0 → ∀ j, i ≤ j + 1 → (hj : j + 1 < l.length) → cmp (l[j] : T_Rule.den).1 (l[j + 1] : T_Rule.den).1 < 0
  | 0, i, h, _, j, hij, hj => by omega
  | k + 1, i, h, hs, j, hij, hj => by
    have hw : IntKind.i64.wrap ((i : Int) + 1) = ((i + 1 : Nat) : Int) := wrap_succ (by omega)
    have unique : ∀ {r}, Says (fun n => spec_RulesFault_L4 n l (i : Int)) r → r = 0 := fun h' => h'.unique hs
    obtain ⟨r', h1', _⟩ := rules_loop l hl k (i + 1) (by omega)
    cases hp : pre (nth T_Rule l (i : Int).toNat).1 with
    | false =>
      have := unique (Says.step (fun n => spec_RulesFault_L4_eq n l i) (Says.pos (by omega) (Says.pos (by omega) (Says.bind (spec_pre _) (Says.condF (by rw [hp]; rfl) (.now _))))))
      omega
    | true =>
      by_cases hi : (i : Int) > 0
      · have hw2 : IntKind.i64.wrap ((i : Int) - 1) = ((i - 1 : Nat) : Int) := wrap_pred (by omega) (by omega)
        cases hle : (Op.bytesLess (ByteArray.toList (nth T_Rule l (i : Int).toNat).1) (ByteArray.toList (nth T_Rule l (IntKind.i64.wrap ((i : Int) - 1)).toNat).1) || ByteArray.toList (nth T_Rule l (i : Int).toNat).1 == ByteArray.toList (nth T_Rule l (IntKind.i64.wrap ((i : Int) - 1)).toNat).1) with
        | true =>
          have := unique (Says.step (fun n => spec_RulesFault_L4_eq n l i) (Says.pos (by omega) (Says.pos (by omega) (Says.bind (spec_pre _) (Says.condT (by rw [hp]; rfl) (Says.condT (by rw [decide_eq_true hi]; rfl) (Says.pos (by omega) (Says.pos (by omega) (Says.condT hle (.now _)))))))))
          )
          omega
        | false =>
          by_cases ht : tf (nth T_Rule l (i : Int).toNat).2.1 = 0
          · have h2 : Says (fun n => spec_RulesFault_L4 n l (i : Int)) r' := by
              refine Says.step (fun n => spec_RulesFault_L4_eq n l i) (Says.pos (by omega) (Says.pos (by omega) (Says.bind (spec_pre _) (Says.condT (by rw [hp]; rfl) (Says.condT (by rw [decide_eq_true hi]; rfl) (Says.pos (by omega) (Says.pos (by omega) (Says.condF hle (Says.pos (by omega) (Says.bind (spec_tf _) (Says.condF (by rw [ht]; rfl) ?_)))))))))))
              rw [hw]; exact h1'
            have hr := unique h2
            subst hr
            rcases Nat.lt_or_ge i (j + 1) with hlt | hge
            · exact loop_sorted l hl k (i + 1) (by omega) h1' j (by omega) hj
            · have : i = j + 1 := by omega
              subst this
              rw [hw2, Int.toNat_natCast, Int.toNat_natCast, nth_at (by omega : j + 1 < l.length), nth_at (by omega : j + 1 - 1 < l.length), Bool.or_eq_false_iff, Go.Lib.toList_data, Go.Lib.toList_data] at hle
              obtain ⟨q1, q2⟩ := hle
              rw [cb_less, decide_eq_false_iff_not] at q1
              simp only [Nat.add_sub_cancel] at q1 q2
              exact cb_flip _ _ q1 (by simpa using q2)
          · have := unique (Says.step (fun n => spec_RulesFault_L4_eq n l i) (Says.pos (by omega) (Says.pos (by omega) (Says.bind (spec_pre _) (Says.condT (by rw [hp]; rfl) (Says.condT (by rw [decide_eq_true hi]; rfl) (Says.pos (by omega) (Says.pos (by omega) (Says.condF hle (Says.pos (by omega) (Says.bind (spec_tf _) (Says.condT (by simpa using ht) (.now _)))))))))))))
            exact absurd this ht
      · by_cases ht : tf (nth T_Rule l (i : Int).toNat).2.1 = 0
        · have h2 : Says (fun n => spec_RulesFault_L4 n l (i : Int)) r' := by
            refine Says.step (fun n => spec_RulesFault_L4_eq n l i) (Says.pos (by omega) (Says.pos (by omega) (Says.bind (spec_pre _) (Says.condT (by rw [hp]; rfl) (Says.condF (by rw [decide_eq_false hi]; rfl) (Says.pos (by omega) (Says.bind (spec_tf _) (Says.condF (by rw [ht]; rfl) ?_))))))))
            rw [hw]; exact h1'
          have hr := unique h2
          subst hr
          exact loop_sorted l hl k (i + 1) (by omega) h1' j (by omega) hj
        · have := unique (Says.step (fun n => spec_RulesFault_L4_eq n l i) (Says.pos (by omega) (Says.pos (by omega) (Says.bind (spec_pre _) (Says.condT (by rw [hp]; rfl) (Says.condF (by rw [decide_eq_false hi]; rfl) (Says.pos (by omega) (Says.bind (spec_tf _) (Says.condT (by simpa using ht) (.now _))))))))))
          exact absurd this ht

theorem sorted_of_fault (l : List T_Rule.den) (hl : l.length ≤ 1048576) (h : Says (fun n => spec_RulesFault n l) 0) : Srt l := by
  by_cases h40 : (l.length : Int) > 40
  · have := (Says.step (fun n => spec_RulesFault_eq n l) (Says.pos h40 (.now _))).unique h
    omega
  · obtain ⟨r, h1, _⟩ := rules_loop l hl l.length 0 (by omega)
    have h2 : Says (fun n => spec_RulesFault n l) r := Says.step (fun n => spec_RulesFault_eq n l) (Says.neg h40 h1)
    have := h2.unique h
    subst this
    exact srt_of fun i hi => loop_sorted l hl l.length 0 (by omega) h1 i (by omega) hi

/-! #### search by halves -/
theorem mid_eq {i j : Nat} (h : i + j < 4611686018427387904) : IntKind.i64.wrap ((IntKind.u64.wrap (IntKind.i64.wrap ((i : Int) + (j : Int)))).fdiv ((2 : Int) ^ min (Int.toNat (1 : Int)) IntKind.u64.bits)) = (((i + j) / 2 : Nat) : Int) := by
  have h1 : IntKind.i64.wrap ((i : Int) + (j : Int)) = ((i + j : Nat) : Int) := by rw [wrap_id (by omega) (by omega)]; omega
  have h2 : IntKind.u64.wrap ((i + j : Nat) : Int) = ((i + j : Nat) : Int) := by
    unfold IntKind.wrap
    have e1 : (2 : Int) ^ IntKind.u64.bits = 18446744073709551616 := rfl
    have e2 : IntKind.u64.signed = false := rfl
    simp only [e1, e2, Bool.false_and, Bool.false_eq_true, if_false]
    omega
  have h3 : ((2 : Int) ^ min (Int.toNat (1 : Int)) IntKind.u64.bits) = 2 := rfl
  rw [h1, h2, h3]
  have h4 : ((i + j : Nat) : Int).fdiv 2 = (((i + j) / 2 : Nat) : Int) := by rw [Int.fdiv_eq_ediv_of_nonneg _ (by omega)]; omega
  rw [h4, wrap_nat (by omega)]

theorem cmp_says (r : T_Rule.den) (p : ByteArray) : Says (fun n => impl_ruleAt_1 n r p) (cmp r.1 p) :=
  Says.step (fun n => impl_ruleAt_1_eq n r p) (Says.bind (Says.step (fun n => strings_Compare_eq n r.1 p) (Says.bind (Says.step (fun n => bytealg_CompareString_eq n r.1 p) (.now _)) (.now _))) (.now _))

/-- the place of a rule, or where it would be -/
structure At (l : List T_Rule.den) (p : ByteArray) (i : Nat) : Prop where
  le : i ≤ l.length
  lo : ∀ k, (hk : k < l.length) → k < i → cmp (l[k] : T_Rule.den).1 p < 0
  hi : ∀ k, (hk : k < l.length) → i ≤ k → ¬ cmp (l[k] : T_Rule.den).1 p < 0

theorem search_says (l : List T_Rule.den) (p : ByteArray) (hs : Srt l) (hl : l.length ≤ 1048576) : ∀ (m i j : Nat), j - i ≤ m → i ≤ j → j ≤ l.length →
    (∀ k, (hk : k < l.length) → k < i → cmp (l[k] : T_Rule.den).1 p < 0) → (∀ k, (hk : k < l.length) → j ≤ k → ¬ cmp (l[k] : T_Rule.den).1 p < 0) →
    ∃ i', At l p i' ∧ Says (fun n => slices_BinarySearchFunc___impl_Rule_impl_Rule_string__L3 n l p (l.length : Int) (i : Int) (j : Int)) ((i' : Int), if h : i' < l.length then decide (cmp (l[i'] : T_Rule.den).1 p = 0) else false)
  | m, i, j, hm, hij, hj, hlo, hhi => by
    rcases Nat.eq_or_lt_of_le hij with rfl | hlt
    · refine ⟨i, ⟨hj, hlo, hhi⟩, Says.step (fun n => slices_BinarySearchFunc___impl_Rule_impl_Rule_string__L3_eq n l p l.length i i) (Says.neg (by omega) ?_)⟩
      by_cases h : i < l.length
      · rw [dif_pos h]
        refine Says.condT (by rw [decide_eq_true (by omega)]; rfl) (Says.pos (by omega) (Says.bind (cmp_says _ p) ?_))
        rw [Int.toNat_natCast, nth_at h]
        have : (cmp (l[i] : T_Rule.den).1 p == 0) = decide (cmp (l[i] : T_Rule.den).1 p = 0) := by rw [Bool.eq_iff_iff]; simp
        rw [this]
        exact .now _
      · rw [dif_neg h]
        exact Says.condF (by rw [decide_eq_false (by omega)]; rfl) (.now _)
    · cases m with
      | zero => omega
      | succ m =>
        have hmid : (i + j) / 2 < l.length := by omega
        have hm2 := mid_eq (i := i) (j := j) (by omega)
        by_cases hc : cmp (l[(i + j) / 2] : T_Rule.den).1 p < 0
        · obtain ⟨i', h1, h2⟩ := search_says l p hs hl m ((i + j) / 2 + 1) j (by omega) (by omega) hj (fun k hk hk2 => by
            rcases Nat.lt_or_ge k ((i + j) / 2) with h | h
            · exact cb_trans _ _ _ (hs k _ hk hmid h) hc
            · have : k = (i + j) / 2 := by omega
              subst this; exact hc) hhi
          refine ⟨i', h1, Says.step (fun n => slices_BinarySearchFunc___impl_Rule_impl_Rule_string__L3_eq n l p l.length i j) (Says.pos (by omega) ?_)⟩
          simp only [hm2]
          refine Says.pos (by omega) (Says.bind (cmp_says _ p) (Says.pos (by rw [Int.toNat_natCast, nth_at hmid]; exact hc) ?_))
          rw [wrap_succ (by omega)]
          exact h2
        · obtain ⟨i', h1, h2⟩ := search_says l p hs hl m i ((i + j) / 2) (by omega) (by omega) (by omega) hlo (fun k hk hk2 hlt => by
            rcases Nat.eq_or_lt_of_le hk2 with rfl | h
            · exact hc hlt
            · exact hc (cb_trans _ _ _ (hs _ k hmid hk h) hlt))
          refine ⟨i', h1, Says.step (fun n => slices_BinarySearchFunc___impl_Rule_impl_Rule_string__L3_eq n l p l.length i j) (Says.pos (by omega) ?_)⟩
          simp only [hm2]
          refine Says.pos (by omega) (Says.bind (cmp_says _ p) (Says.neg (by rw [Int.toNat_natCast, nth_at hmid]; exact hc) ?_))
          exact h2

/-- is it there? -/
def isAt (l : List T_Rule.den) (p : ByteArray) (i : Nat) : Bool := if h : i < l.length then decide (cmp (l[i] : T_Rule.den).1 p = 0) else false
theorem ruleAt_says (l : List T_Rule.den) (p : ByteArray) (hs : Srt l) (hl : l.length ≤ 1048576) : ∃ i, At l p i ∧ Says (fun n => impl_ruleAt n l p) ((i : Int), isAt l p i) := by
  obtain ⟨i, h1, h2⟩ := search_says l p hs hl l.length 0 l.length (by omega) (by omega) (by omega) (fun k _ h => by omega) (fun k hk h => by omega)
  exact ⟨i, h1, Says.step (fun n => impl_ruleAt_eq n l p) (Says.bind (Says.step (fun n => slices_BinarySearchFunc___impl_Rule_impl_Rule_string__eq n l p) h2) (.now _))⟩

/-! #### search in a row -/
theorem eq_cmp (r : ByteArray) (p : ByteArray) : (r.toList == p.toList) = decide (cmp r p = 0) := by
  rw [Bool.eq_iff_iff, beq_iff_eq, decide_eq_true_iff, Go.Lib.toList_data, Go.Lib.toList_data]
  constructor
  · intro h; unfold cmp; rw [h]; exact cb_self _
  · intro h; exact cb_zero _ _ h
theorem find_says (l : List T_Rule.den) (p : ByteArray) (hs : Srt l) (hl : l.length ≤ 1048576) {i : Nat} (ha : At l p i) : ∀ (m k : Nat), k + m = l.length → (isAt l p i = true → k ≤ i) →
    Says (fun n => spec_l13Find_L2 n l p (k : Int)) (if isAt l p i then (i : Int) else -1)
  | 0, k, hk, h => by
    have : isAt l p i = false := by
      cases hh : isAt l p i with
      | false => rfl
      | true =>
        have := h hh
        unfold isAt at hh
        split at hh
        · omega
        · cases hh
    rw [this]
    exact Says.step (fun n => spec_l13Find_L2_eq n l p k) (Says.neg (by omega) (.now _))
  | m + 1, k, hk, h => by
    have hkl : k < l.length := by omega
    refine Says.step (fun n => spec_l13Find_L2_eq n l p k) (Says.pos (by omega) (Says.pos (by omega) ?_))
    rw [Int.toNat_natCast, nth_at hkl, eq_cmp]
    by_cases hc : cmp (l[k] : T_Rule.den).1 p = 0
    · refine Says.pos hc ?_
      have hge : i ≤ k := by
        rcases Nat.lt_or_ge k i with h' | h'
        · have := ha.lo k hkl h'; omega
        · exact h'
      have hki : k = i := by
        rcases Nat.eq_or_lt_of_le hge with h' | h'
        · exact h'.symm
        · exfalso
          have h1 := hs i k (by omega) hkl h'
          have h2 := cmp_eq hc
          rw [h2] at h1
          exact ha.hi i (by omega) (Nat.le_refl _) h1
      subst hki
      have : isAt l p k = true := by unfold isAt; rw [dif_pos hkl]; exact decide_eq_true hc
      rw [this]
      exact .now _
    · refine Says.neg hc ?_
      rw [wrap_succ (by omega)]
      refine find_says l p hs hl ha m (k + 1) (by omega) fun hh => ?_
      have := h hh
      rcases Nat.eq_or_lt_of_le this with rfl | h'
      · unfold isAt at hh
        rw [dif_pos hkl] at hh
        exact absurd (of_decide_eq_true hh) hc
      · exact h'
theorem l13Find_says (l : List T_Rule.den) (p : ByteArray) (hs : Srt l) (hl : l.length ≤ 1048576) {i : Nat} (ha : At l p i) : Says (fun n => spec_l13Find n l p) (if isAt l p i then (i : Int) else -1) :=
  Says.step (fun n => spec_l13Find_eq n l p) (find_says l p hs hl ha l.length 0 (by omega) fun _ => by omega)

theorem isAt_lt {l : List T_Rule.den} {p : ByteArray} {i : Nat} (h : isAt l p i = true) : i < l.length := by
  unfold isAt at h
  split at h
  · assumption
  · cases h

theorem findRule_law (x : List T_Rule.den) (p : ByteArray) (g : good (.sl T_Rule) x) (g2 : good .str p) : Says (fun n => laws_FnExactFindRule n x p) true := by
  refine Says.step (fun n => laws_FnExactFindRule_eq n x p) (Says.cases (fun _ => .now _) fun _ => Says.bind (says_laws_szRuleS x 1048576 g (by omega) (by omega)) (Says.cases (fun _ => .now _) fun h => ?_))
  have hb := szr_pos h
  have hb' : bulk (.sl T_Rule) x ≤ 1048576 := by omega
  have hto := says_laws_toRuleS x hb'
  have hsum : bulk (.sl T_Rule) x = x.length + (x.map (bulk T_Rule)).sum := rfl
  have hl : x.length ≤ 1048576 := by omega
  obtain ⟨r, hs, hi⟩ := rulesFault_says x hl
  obtain ⟨c, t, h1, h2, h3⟩ : ∃ (c : Int) (t : ByteArray), Says (fun n => spec_FindRule n x p) (c, t, ()) ∧ Says (fun n => impl_FindRule n x p) (c, t, ()) ∧ t.size ≤ 1048576 := by
    by_cases h0 : r = 0
    · subst h0
      have hsrt := sorted_of_fault x hl hs
      obtain ⟨i, ha, hr⟩ := ruleAt_says x p hsrt hl
      have hf := l13Find_says x p hsrt hl ha
      cases hat : isAt x p i with
      | true =>
        have hlt := isAt_lt hat
        rw [hat] at hf hr
        refine ⟨0, (x[i] : T_Rule.den).2.1, ?_, ?_, ?_⟩
        · refine Says.step (fun n => spec_FindRule_eq n x p) (Says.bind hs (Says.condF rfl (Says.bind hf (Says.neg (by simp) (Says.pos (by simp; omega) ?_)))))
          simp only [if_true, Int.toNat_natCast, nth_at hlt]
          exact .now _
        · refine Says.step (fun n => impl_FindRule_eq n x p) (Says.bind hi (Says.condF rfl (Says.bind hr (Says.condF rfl (Says.pos (by simp; omega) ?_)))))
          simp only [Int.toNat_natCast, nth_at hlt]
          exact .now _
        · have := bulk_mem (t := T_Rule) (List.getElem_mem hlt)
          have h4 : bulk T_Rule x[i] = (x[i] : T_Rule.den).1.size + ((x[i] : T_Rule.den).2.1.size + 0) := rfl
          omega
      | false =>
        rw [hat] at hf hr
        refine ⟨4, noS, ?_, ?_, by decide⟩
        · exact Says.step (fun n => spec_FindRule_eq n x p) (Says.bind hs (Says.condF rfl (Says.bind hf (Says.pos (by simp) (.now _)))))
        · exact Says.step (fun n => impl_FindRule_eq n x p) (Says.bind hi (Says.condF rfl (Says.bind hr (Says.condT rfl (.now _)))))
    · exact ⟨r, noS, Says.step (fun n => spec_FindRule_eq n x p) (Says.bind hs (Says.condT (by simpa using h0) (.now _))), Says.step (fun n => impl_FindRule_eq n x p) (Says.bind hi (Says.condT (by simpa using h0) (.now _))), by decide⟩
  have heq := says_laws_eqTextResult (c, t, ()) (by show 0 + (t.size + 0) ≤ _; omega)
  exact Says.bind hto (Says.bind h1 (Says.bind hto (Says.bind h2 (Says.bind heq (Says.condF rfl (Says.bind hto (Says.bind (says_laws_eqRuleS x (by omega)) (Says.condF rfl (.now _)))))))))
end Go.Proofs.YtjklgmflillagaaDoor.Ev
