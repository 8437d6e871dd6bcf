/- PfRules, PfPutE, PfResolve, PfDelE, PfClash, PfCompact, PfReplay. -/
import Derived.Test.YtmojilihllhadaaGreatDoorPfGa
import Derived.Test.YtmojilihllhadaaGreatDoorPfGc
import Derived.Test.YtmojilihllhadaaGreatDoorPfGd
set_option linter.unusedVariables false
set_option linter.unusedSimpArgs false
namespace Go.Proofs.YtmojilihllhadaaGreatDoor.Ev
open Go
def preB (s : ByteArray) : Bool := decide ((s.size : Int) ≥ 1) && decide ((s.size : Int) ≤ 8000)
theorem spec_pre_s (s : ByteArray) : spec_l13Pre.s s = some (preB s) := by
  rw [spec_l13Pre.e]
  unfold preB
  by_cases h : (s.size : Int) ≥ 1
  · rw [if_pos h, decide_eq_true h, Bool.true_and]
  · rw [if_neg h, decide_eq_false h, Bool.false_and]
theorem impl_pre_s (s : ByteArray) : impl_isPre.s s = some (preB s) := by
  rw [impl_isPre.e]
  unfold preB
  by_cases h : s = noS
  · subst h; rfl
  · have h1 : (s.size : Int) ≥ 1 := by
      have : s.size ≠ 0 := fun e => h (by
        rw [← ba_self s]
        have : s.data.toList = [] := List.eq_nil_of_length_eq_zero (by rw [← Go.Lib.size_eq s]; exact e)
        rw [this]; rfl)
      omega
    rw [if_neg h, decide_eq_true h1, Bool.true_and]
theorem le_b (a b : ByteArray) : (Op.bytesLess (ByteArray.toList a) (ByteArray.toList b) || ByteArray.toList a == ByteArray.toList b) = true ↔ (BLt a b ∨ a = b) := by
  unfold BLt
  rw [Go.Lib.toList_data, Go.Lib.toList_data, Bool.or_eq_true, beq_iff_eq]
  constructor
  · rintro (h | h)
    · exact .inl h
    · exact .inr (ba_ext h)
  · rintro (h | h)
    · exact .inl h
    · exact .inr (by rw [h])
abbrev rk (r : T_Rule.den) : ByteArray := r.1
theorem rules_loop (l : List T_Rule.den) (hl : l.length ≤ 1048576) : ∀ (k i : Nat), i + k = l.length →
    ∃ r, spec_RulesFault_L4.s l (i : Int) = some r ∧ impl_RulesFault_L4.s l l (l.length : Int) (i : Int) = some r ∧
      (r = 0 → ∀ j (hj : j < l.length), i ≤ j → tf (l[j] : T_Rule.den).2.1 = 0 ∧ (0 < j → cmp (rk (l[j - 1]'(by omega))) (rk l[j]) < 0))
  | 0, i, h => ⟨0, by rw [spec_RulesFault_L4.e, if_neg (by omega)], by rw [impl_RulesFault_L4.e, if_neg (by omega)], fun _ j hj hij => by omega⟩
  | k + 1, i, h => by
    have hi : i < l.length := by omega
    obtain ⟨r, h1, h2, h3⟩ := rules_loop l hl k (i + 1) (by omega)
    have hn : nth T_Rule l (i : Int).toNat = l[i] := by rw [Int.toNat_natCast]; exact nth_at hi
    have c1 : (i : Int) < (l.length : Int) := by omega
    have c2 : (0 : Int) ≤ (i : Int) ∧ (i : Int) < (l.length : Int) := by omega
    have next : tf (l[i] : T_Rule.den).2.1 = 0 → (0 < i → cmp (rk (l[i - 1]'(by omega))) (rk l[i]) < 0) → (r = 0 → ∀ j (hj : j < l.length), i ≤ j → tf (l[j] : T_Rule.den).2.1 = 0 ∧ (0 < j → cmp (rk (l[j - 1]'(by omega))) (rk l[j]) < 0)) := fun a b hr j hj hij => by
      rcases Nat.eq_or_lt_of_le hij with rfl | hlt
      · exact ⟨a, b⟩
      · exact h3 hr j hj hlt
    rw [spec_RulesFault_L4.e, impl_RulesFault_L4.e, if_pos c1, if_pos c1, if_pos c2, if_pos c2, hn, spec_pre_s, impl_pre_s, Option.bind_some, Option.bind_some, wrap_succ (by omega), h1, h2, spec_tf, impl_tf]
    simp only [Option.bind_some, codeIf_s, firstCode2_s]
    cases hp : preB (l[i] : T_Rule.den).1 with
    | false => exact ⟨1, by simp, by simp; omega, fun e => by cases e⟩
    | true =>
      rw [if_pos rfl, if_pos rfl]
      by_cases h0 : (i : Int) > 0
      · have c3 : (0 : Int) ≤ ((i - 1 : Nat) : Int) ∧ ((i - 1 : Nat) : Int) < (l.length : Int) := by omega
        have hn1 : nth T_Rule l ((i - 1 : Nat) : Int).toNat = l[i - 1]'(by omega) := by rw [Int.toNat_natCast]; exact nth_at (by omega)
        rw [if_pos h0, if_pos h0, if_pos c2, wrap_pred (by omega) (by omega), if_pos c3, if_pos c3, hn1]
        by_cases hle : BLt (l[i] : T_Rule.den).1 (l[i - 1]'(by omega) : T_Rule.den).1 ∨ (l[i] : T_Rule.den).1 = (l[i - 1]'(by omega) : T_Rule.den).1
        · rw [if_pos hle, (le_b _ _).2 hle]
          exact ⟨1, rfl, by simp; omega, fun e => by cases e⟩
        · have hf : (Op.bytesLess (ByteArray.toList (l[i] : T_Rule.den).fst) (ByteArray.toList (l[i - 1]'(by omega) : T_Rule.den).fst) || ByteArray.toList (l[i] : T_Rule.den).fst == ByteArray.toList (l[i - 1]'(by omega) : T_Rule.den).fst) = false := by
            cases hb : (Op.bytesLess (ByteArray.toList (l[i] : T_Rule.den).fst) (ByteArray.toList (l[i - 1]'(by omega) : T_Rule.den).fst) || ByteArray.toList (l[i] : T_Rule.den).fst == ByteArray.toList (l[i - 1]'(by omega) : T_Rule.den).fst) with
            | false => rfl
            | true => exact absurd ((le_b _ _).1 hb) hle
          rw [if_neg hle, if_pos c2, hf]
          by_cases ht : tf (l[i] : T_Rule.den).2.1 = 0
          · rw [if_pos ht]
            exact ⟨r, rfl, by simp [ht], next ht fun _ => not_le hle⟩
          · rw [if_neg ht]
            exact ⟨_, rfl, by simp [ht], fun e => absurd e ht⟩
      · rw [if_neg h0, if_neg h0, if_pos c2]
        by_cases ht : tf (l[i] : T_Rule.den).2.1 = 0
        · rw [if_pos ht]
          exact ⟨r, rfl, by simp [ht]; omega, next ht fun e => by omega⟩
        · rw [if_neg ht]
          exact ⟨_, rfl, by simp [ht]; omega, fun e => absurd e ht⟩
structure OkRules (l : List T_Rule.den) : Prop where
  len : l.length ≤ 40
  post : ∀ r ∈ l, tf r.2.1 = 0
  srt : Srt (t := T_Rule) rk l
theorem rulesFault_all (l : List T_Rule.den) (hl : l.length ≤ 1048576) : ∃ r, spec_RulesFault.s l = some r ∧ impl_RulesFault.s l = some r ∧ (r = 0 → OkRules l) := by
  rw [spec_RulesFault.e, impl_RulesFault.e]
  by_cases h : (l.length : Int) > 40
  · rw [if_pos h, if_pos h]
    exact ⟨2, rfl, rfl, fun e => by cases e⟩
  · rw [if_neg h, if_neg h]
    obtain ⟨r, h1, h2, h3⟩ := rules_loop l hl l.length 0 (by omega)
    refine ⟨r, h1, h2, fun e => ⟨by omega, fun x hx => ?_, srt_of fun i hi => ?_⟩⟩
    · obtain ⟨j, hj, rfl⟩ := List.getElem_of_mem hx
      exact (h3 e j hj (Nat.zero_le _)).1
    · exact (h3 e (i + 1) hi (Nat.zero_le _)).2 (by omega)
theorem ruleAt_all {l : List T_Rule.den} (h : OkRules l) (p : ByteArray) : ∃ i : Nat, impl_ruleAt.s l p = some ((i : Int), (plc (t := T_Rule) rk l p).isSome) ∧ (∀ n, plc (t := T_Rule) rk l p = some n → i = n) ∧
    spec_l13Find.s l p = some (match plc (t := T_Rule) rk l p with | some n => (n : Int) | none => -1) := by
  have hl := h.len
  obtain ⟨i, h1, h2⟩ := bs_all (t := T_Rule) (C := impl_ruleAt_1.s) slices_BinarySearchFunc___impl_Rule_impl_Rule_string__L3.e (c := fun o => cmp (rk o) p) (p := p) (l := l) (fun x _ => by rw [impl_ruleAt_1.e, strings_Compare.e, bytealg_CompareString.e, Option.bind_some]; rfl) (h.srt.falls p) (by omega)
  have hpl := h1.plc h.srt
  refine ⟨i, ?_, fun n hn => ?_, ?_⟩
  · rw [impl_ruleAt.e, slices_BinarySearchFunc___impl_Rule_impl_Rule_string_.e, h2, Option.bind_some, hpl]
    cases isAt (t := T_Rule) (fun o => cmp (rk o) p) l i <;> rfl
  · rw [hpl] at hn
    split at hn
    · exact Option.some.inj hn
    · cases hn
  · rw [spec_l13Find.e]
    refine row_find0 (t := T_Rule) (q := fun o => decide (rk o = p)) (by omega) ?_ (fun i hi hq => ?_) (fun i hi hq => ?_)
    · rw [spec_l13Find_L2.e, if_neg (by omega)]
    · rw [spec_l13Find_L2.e]
      simp (disch := omega) only [if_pos, Int.toNat_natCast, nth_at hi]
      rw [if_pos (of_decide_eq_true hq)]
    · rw [spec_l13Find_L2.e]
      simp (disch := omega) only [if_pos, Int.toNat_natCast, nth_at hi, wrap_succ]
      rw [if_neg (of_decide_eq_false hq)]
theorem ltE_trans {x y z : T_Entry.den} (h : ltE x y) (k : ltE y z) : ltE x z := by
  rcases ltE_cot z h with h1 | h1
  · exact h1
  · exact absurd h1 (ltE_asymm k)
theorem le_trans {x y z : T_Entry.den} (h : ¬ ltE y x) (k : ¬ ltE z y) : ¬ ltE z x := fun hh => by
  rcases ltE_cot y hh with h1 | h1
  · exact k h1
  · exact h h1
def WS (l : List T_Entry.den) : Prop := l.Pairwise fun x y => ¬ ltE y x
theorem uniq : ∀ (a b : List T_Entry.den), a.Perm b → WS a → WS b → (∀ x ∈ a, ∀ y ∈ a, x.1 = y.1 → stg x = stg y → x = y) → a = b
  | [], b, h, _, _, _ => (List.Perm.nil_eq h)
  | x :: a, [], h, _, _, _ => absurd h.length_eq (by simp)
  | x :: a, y :: b, h, ha, hb, hk => by
    have hxy : x = y := by
      apply Classical.byContradiction
      intro hne
      have hx : x ∈ b := by
        rcases List.mem_cons.1 (h.mem_iff.1 (List.mem_cons_self ..)) with e | e
        · exact absurd e hne
        · exact e
      have hy : y ∈ a := by
        rcases List.mem_cons.1 (h.mem_iff.2 (List.mem_cons_self ..)) with e | e
        · exact absurd e.symm hne
        · exact e
      have h1 := (List.pairwise_cons.1 ha).1 y hy
      have h2 := (List.pairwise_cons.1 hb).1 x hx
      obtain ⟨e1, e2⟩ := ltE_tri h2 h1
      exact hne (hk x (by simp) y (by simp [hy]) e1 e2)
    subst hxy
    have := uniq a b (List.Perm.cons_inv h) (List.pairwise_cons.1 ha).2 (List.pairwise_cons.1 hb).2 (fun x hx y hy => hk x (by simp [hx]) y (by simp [hy]))
    rw [this]
/-! #### the insertion -/
theorem put_eq (l : List T_Entry.den) (e : T_Entry.den) (hl : l.length ≤ 1048576) (i : Nat) (hi : i ≤ l.length) :
    (i = 0 ∨ (∃ h : i - 1 < l.length, ¬ ltE e l[i - 1]) → spec_l10Put_L2.s l e i = some (l.take i ++ ([e] ++ l.drop i))) ∧
    ((h : i - 1 < l.length) → 0 < i → ltE e l[i - 1] → spec_l10Put_L2.s l e i = spec_l10Put_L2.s l e ((i - 1 : Nat) : Int)) := by
  have n0 : nth T_Entry [e] (nat_lit 0) = e := rfl
  have he : (e.fst, e.snd.fst, e.snd.snd.fst, e.snd.snd.snd.fst, ()) = e := rfl
  have E := spec_l10Put_L2.e l e i
  have c1 : (0 : Int) ≤ (i : Int) ∧ (i : Int) ≤ (l.length : Int) := by omega
  have c2 : 0 + (l.take i).length < 4294967296 := by simp; omega
  have c3 : (l.take i).length + [e].length < 4294967296 := by simp; omega
  have c4 : (l.take i ++ [e]).length + (l.drop i).length < 4294967296 := by simp; omega
  simp only [n0, he, Int.toNat_natCast, fill1, List.drop_zero, List.nil_append, List.take_length, if_pos c1, if_pos c2, if_pos c3, if_pos c4] at E
  by_cases h0 : 0 < i
  · have hi1 : i - 1 < l.length := by omega
    have c5 : (0 : Int) ≤ ((i - 1 : Nat) : Int) ∧ ((i - 1 : Nat) : Int) < (l.length : Int) := by omega
    have c6 : (i : Int) > 0 := by omega
    simp only [wrap_pred (show 1 ≤ i by omega) (show i < 4611686018427387904 by omega), Int.toNat_natCast, nth_at (t := T_Entry) hi1, if_pos c5, if_pos c6] at E
    rw [E]
    constructor
    · rintro (h | ⟨_, hn⟩)
      · omega
      · by_cases hle : BLt (l[i - 1] : T_Entry.den).1 e.1 ∨ (l[i - 1] : T_Entry.den).1 = e.1
        · rw [if_pos hle]
          by_cases heq : (l[i - 1] : T_Entry.den).1 = e.1
          · have hs : ¬ stg l[i - 1] > stg e := fun hh => hn (.inr ⟨heq.symm, hh⟩)
            rw [if_pos heq, if_neg hs, List.append_assoc]
          · rw [if_neg heq, List.append_assoc]
        · exact absurd (.inl (not_le hle)) hn
    · intro _ _ hlt
      by_cases hle : BLt (l[i - 1] : T_Entry.den).1 e.1 ∨ (l[i - 1] : T_Entry.den).1 = e.1
      · rw [if_pos hle]
        rcases hlt with hlt | ⟨heq, hs⟩
        · exfalso
          rcases hle with hle | hle
          · rw [blt_iff] at hle
            have := cmp_trans hlt hle
            rw [cmp_self] at this; omega
          · rw [hle, cmp_self] at hlt; omega
        · have hs : stg l[i - 1] > stg e := hs
          rw [if_pos heq.symm, if_pos hs]
      · rw [if_neg hle]
  · have : i = 0 := by omega
    subst this
    constructor
    · intro _
      rw [E, if_neg (by omega), List.append_assoc]
    · intro _ h; omega
theorem put_loop (l : List T_Entry.den) (e : T_Entry.den) (hl : l.length ≤ 1048576) : ∀ (i : Nat), i ≤ l.length → (∀ j, i ≤ j → (h : j < l.length) → ltE e l[j]) →
    ∃ a, a ≤ l.length ∧ spec_l10Put_L2.s l e i = some (l.take a ++ ([e] ++ l.drop a)) ∧ (∀ j, a ≤ j → (h : j < l.length) → ltE e l[j]) ∧ (a = 0 ∨ ∃ h : a - 1 < l.length, ¬ ltE e l[a - 1])
  | 0, hi, hj => ⟨0, by omega, (put_eq l e hl 0 hi).1 (.inl rfl), hj, .inl rfl⟩
  | i + 1, hi, hj => by
    have hi1 : i + 1 - 1 < l.length := by omega
    by_cases hc : ltE e l[i + 1 - 1]
    · rw [(put_eq l e hl (i + 1) hi).2 hi1 (by omega) hc]
      exact put_loop l e hl i (by omega) fun j h1 h2 => by
        by_cases hji : j = i
        · subst hji; exact hc
        · exact hj j (by omega) h2
    · exact ⟨i + 1, hi, (put_eq l e hl (i + 1) hi).1 (.inr ⟨hi1, hc⟩), hj, .inr ⟨hi1, hc⟩⟩
theorem put_s (l : List T_Entry.den) (e : T_Entry.den) (hl : l.length ≤ 1048576) (hs : WS l) : ∃ r, spec_l10Put.s l e = some r ∧ WS r ∧ r.Perm (e :: l) := by
  rw [spec_l10Put.e]
  show ∃ r, spec_l10Put_L2.s l e _ = some r ∧ _
  obtain ⟨a, ha, h1, h2, h3⟩ := put_loop l e hl l.length (by omega) fun j h1 h2 => by omega
  refine ⟨_, h1, ?_, ?_⟩
  · have hlo : ∀ j, j < a → (h : j < l.length) → ¬ ltE e l[j] := by
      intro j hj hjl
      rcases h3 with h3 | ⟨h3, h4⟩
      · omega
      · by_cases hja : j = a - 1
        · subst hja; exact h4
        · exact le_trans (List.pairwise_iff_getElem.1 hs j (a - 1) hjl h3 (by omega)) h4
    have hp := hs
    unfold WS at hp ⊢
    rw [← List.take_append_drop a l, List.pairwise_append] at hp
    rw [List.pairwise_append, List.singleton_append, List.pairwise_cons]
    refine ⟨hp.1, ⟨fun x hx => ?_, hp.2.1⟩, fun x hx y hy => ?_⟩
    · obtain ⟨j, hj, rfl⟩ := List.getElem_of_mem hx
      rw [List.getElem_drop]
      exact ltE_asymm (h2 (a + j) (by omega) (by simp at hj; omega))
    · rcases List.mem_cons.1 hy with rfl | hy
      · obtain ⟨j, hj, rfl⟩ := List.getElem_of_mem hx
        rw [List.getElem_take]
        exact hlo j (by simp at hj; omega) _
      · exact hp.2.2 x hx y hy
  · have : (l.take a ++ ([e] ++ l.drop a)).Perm (e :: (l.take a ++ l.drop a)) := List.perm_middle
    rwa [List.take_append_drop] at this
theorem clone_s (l : List T_Entry.den) (hl : l.length ≤ 1048576) : slices_Clone___impl_Entry_impl_Entry_.s l = some l := by
  rw [slices_Clone___impl_Entry_impl_Entry_.e]
  by_cases h : l.length = 0
  · have : l = [] := List.eq_nil_of_length_eq_zero h
    subst this
    rw [if_pos h]
    unfold joinO
    exact if_pos rfl
  · rw [if_neg h, if_pos (by omega), List.nil_append]
def SI (l : List T_Entry.den) : Prop := l.Pairwise ltE
theorem SI.ws {l : List T_Entry.den} (h : SI l) : WS l := List.Pairwise.imp (fun hxy => ltE_asymm hxy) h
theorem si_falls {l : List T_Entry.den} (h : SI l) (e : T_Entry.den) : Falls (t := T_Entry) (fun x => ceI x e) l := by
  intro i j hi hj hij hc
  rw [ceI_lt] at hc ⊢
  exact ltE_trans (List.pairwise_iff_getElem.1 h i j hi hj hij) hc
theorem si_filter {l : List T_Entry.den} (h : SI l) (q : T_Entry.den → Bool) : SI (l.filter q) := List.Pairwise.sublist List.filter_sublist h
theorem si_put {F : List T_Entry.den} {e : T_Entry.den} {i : Nat} (hs : SI F) (hne : ∀ x ∈ F, x.1 ≠ e.1) (ha : At (t := T_Entry) (fun x => ceI x e) F i) : SI (F.take i ++ (e :: F.drop i)) := by
  have hp := hs
  unfold SI at hp ⊢
  rw [← List.take_append_drop i F, List.pairwise_append] at hp
  rw [List.pairwise_append, List.pairwise_cons]
  have lo : ∀ x ∈ F.take i, ltE x e := fun x hx => by
    obtain ⟨j, hj, rfl⟩ := List.getElem_of_mem hx
    rw [List.getElem_take]
    rw [List.length_take] at hj
    have := ha.lo j (by omega) (by omega)
    exact (ceI_lt _ _).1 this
  have hi : ∀ x ∈ F.drop i, ltE e x := fun x hx => by
    have hm := List.mem_of_mem_drop hx
    obtain ⟨j, hj, rfl⟩ := List.getElem_of_mem hx
    rw [List.length_drop] at hj
    have hk : i + j < F.length := by omega
    have hn := ha.hi (i + j) hk (by omega)
    rw [List.getElem_drop] at hm ⊢
    have hn' : ¬ ltE F[i + j] e := fun k => hn ((ceI_lt _ _).2 k)
    exact Classical.byContradiction fun k => hne _ hm (ltE_tri hn' k).1
  refine ⟨hp.1, ⟨hi, hp.2.1⟩, fun x hx y hy => ?_⟩
  rcases List.mem_cons.1 hy with rfl | hy
  · exact lo x hx
  · exact hp.2.2 x hx y hy
theorem put_at {F : List T_Entry.den} {e : T_Entry.den} {i : Nat} (hl : F.length ≤ 1048576) (hs : SI F) (hne : ∀ x ∈ F, x.1 ≠ e.1) (ha : At (t := T_Entry) (fun x => ceI x e) F i) : spec_l10Put.s F e = some (F.take i ++ (e :: F.drop i)) := by
  obtain ⟨r, h1, h2, h3⟩ := put_s F e hl hs.ws
  have hsi := si_put hs hne ha
  have hp : (F.take i ++ (e :: F.drop i)).Perm (e :: F) := by
    have : (F.take i ++ ([e] ++ F.drop i)).Perm (e :: (F.take i ++ F.drop i)) := List.perm_middle
    rwa [List.take_append_drop] at this
  rw [h1, uniq r _ (h3.trans hp.symm) h2 hsi.ws]
  intro x hx y hy e1 e2
  have hx' := hp.symm.subset (h3.subset hx)
  have hy' := hp.symm.subset (h3.subset hy)
  obtain ⟨j, hj, rfl⟩ := List.getElem_of_mem hx'
  obtain ⟨k, hk, rfl⟩ := List.getElem_of_mem hy'
  have no : ∀ a b : T_Entry.den, ltE a b → a.1 = b.1 → stg a = stg b → False := fun a b h p q => by
    rcases h with h | h
    · rw [p, cmp_self] at h; omega
    · have := h.2; omega
  rcases Nat.lt_trichotomy j k with h | h | h
  · exact (no _ _ (List.pairwise_iff_getElem.1 hsi j k hj hk h) e1 e2).elim
  · subst h; rfl
  · exact (no _ _ (List.pairwise_iff_getElem.1 hsi k j hk hj h) e1.symm e2.symm).elim
def noP (p : ByteArray) (e : T_Entry.den) : Bool := !decide (e.1 = p)
theorem del_loop (X : List T_Entry.den) (hX : X.length ≤ 1048576) (p : ByteArray) : ∀ (k i j : Nat) (m : List T_Entry.den), j + k = X.length → i ≤ j → m.length = X.length → m.take i = (X.take j).filter (noP p) → m.drop i = X.drop i →
    slices_DeleteFunc___impl_Entry_impl_Entry__L5.s X.length p (i : Int) (j : Int) m = some (X.filter (noP p))
  | 0, i, j, m, hk, hi, hm, h1, h2 => by
    have e : j = X.length := by omega
    rw [slices_DeleteFunc___impl_Entry_impl_Entry__L5.e, if_neg (by omega), if_pos (by omega), if_pos (by omega), Int.toNat_natCast]
    unfold splice
    rw [List.drop_zero, Nat.sub_zero, List.append_assoc, List.take_append_of_le_length (by rw [List.length_take]; omega), List.take_take, Nat.min_self, h1, e, List.take_length]
  | k + 1, i, j, m, hk, hi, hm, h1, h2 => by
    have hjx : j < X.length := by omega
    have n1 : nth T_Entry m j = X[j] := by
      rw [nth_at (t := T_Entry) (by omega : j < m.length)]
      have hd : (m.drop i)[j - i]? = (X.drop i)[j - i]? := by rw [h2]
      rw [List.getElem?_drop, List.getElem?_drop, show i + (j - i) = j by omega, List.getElem?_eq_getElem (by omega), List.getElem?_eq_getElem hjx] at hd
      exact Option.some.inj hd
    have hp : nth Ty.str [p] 0 = p := rfl
    have ht : (X.take (j + 1)).filter (noP p) = (X.take j).filter (noP p) ++ [X[j]].filter (noP p) := by
      rw [List.take_add_one, List.getElem?_eq_getElem hjx, List.filter_append]
      rfl
    rw [slices_DeleteFunc___impl_Entry_impl_Entry__L5.e, if_pos (by omega), if_pos (by omega), Int.toNat_natCast, n1, hp, wrap_succ (by omega)]
    by_cases he : (X[j] : T_Entry.den).1 = p
    · rw [if_pos he]
      refine del_loop X hX p k i (j + 1) m (by omega) (by omega) hm ?_ h2
      rw [ht, h1, List.filter_cons_of_neg (by unfold noP; simp [he]), List.filter_nil, List.append_nil]
    · rw [if_neg he, if_pos (by omega), wrap_succ (by omega), Int.toNat_natCast]
      refine del_loop X hX p k (i + 1) (j + 1) (m.set i X[j]) (by omega) (by omega) (by rw [List.length_set]; exact hm) ?_ ?_
      · rw [take_set (by omega), ht, h1, List.filter_cons_of_pos (by unfold noP; simp [he]), List.filter_nil]
      · rw [List.drop_set_of_lt (by omega), ← List.drop_drop, h2, List.drop_drop]
theorem del_s (X : List T_Entry.den) (hX : X.length ≤ 1048576) (p : ByteArray) : slices_DeleteFunc___impl_Entry_impl_Entry_.s X p = some (X.filter (noP p)) := by
  rw [slices_DeleteFunc___impl_Entry_impl_Entry_.e, slices_IndexFunc___impl_Entry_impl_Entry__v1.e]
  have := row_find0 (t := T_Entry) (L := fun i => slices_IndexFunc___impl_Entry_impl_Entry__v1_L2.s X p (X.length : Int) i) (q := fun f => decide (f.1 = p)) hX
    (by show slices_IndexFunc___impl_Entry_impl_Entry__v1_L2.s X p _ _ = _; rw [slices_IndexFunc___impl_Entry_impl_Entry__v1_L2.e, if_neg (by omega)])
    (fun i hi hq => by
      show slices_IndexFunc___impl_Entry_impl_Entry__v1_L2.s X p _ _ = _
      rw [slices_IndexFunc___impl_Entry_impl_Entry__v1_L2.e]
      simp (disch := omega) only [if_pos, Int.toNat_natCast, nth_at (t := T_Entry) hi, wrap_succ]
      have hq : (X[i] : T_Entry.den).1 = nth Ty.str [p] 0 := of_decide_eq_true hq
      exact if_pos hq)
    (fun i hi hq => by
      show slices_IndexFunc___impl_Entry_impl_Entry__v1_L2.s X p _ _ = slices_IndexFunc___impl_Entry_impl_Entry__v1_L2.s X p _ _
      conv => lhs; rw [slices_IndexFunc___impl_Entry_impl_Entry__v1_L2.e]
      simp (disch := omega) only [if_pos, Int.toNat_natCast, nth_at (t := T_Entry) hi, wrap_succ]
      have hq : ¬ (X[i] : T_Entry.den).1 = nth Ty.str [p] 0 := of_decide_eq_false hq
      exact if_neg hq)
  have h0 : slices_IndexFunc___impl_Entry_impl_Entry__v1_L2.s X p (X.length : Int) 0 = _ := this
  rw [h0, Option.bind_some]
  cases hf : X.findIdx? (fun f => decide (f.1 = p)) with
  | none =>
    rw [List.findIdx?_eq_none_iff] at hf
    show (if (-1 : Int) = -1 then _ else _) = _
    rw [if_pos rfl, List.filter_eq_self.2 fun x hx => by unfold noP; rw [hf x hx]; rfl]
  | some n =>
    obtain ⟨h1, h2, h3⟩ := List.findIdx?_eq_some_iff_getElem.1 hf
    show (if ((n : Nat) : Int) = -1 then _ else _) = _
    rw [if_neg (by omega), wrap_succ (by omega)]
    refine del_loop X hX p (X.length - (n + 1)) n (n + 1) X (by omega) (by omega) rfl ?_ rfl
    have ha : (X.take n).filter (noP p) = X.take n := List.filter_eq_self.2 fun x hx => by
      obtain ⟨j, hj, rfl⟩ := List.getElem_of_mem hx
      rw [List.length_take] at hj
      rw [List.getElem_take]
      have := h3 j (by omega)
      unfold noP
      simpa using this
    rw [List.take_add_one, List.getElem?_eq_getElem h1, List.filter_append, ha]
    have hb : (some X[n]).toList.filter (noP p) = [] := by
      show [X[n]].filter (noP p) = []
      rw [List.filter_cons_of_neg (by unfold noP; simp [of_decide_eq_true h2]), List.filter_nil]
    rw [hb, List.append_nil]
open Classical in
noncomputable def clF : List T_Entry.den → List ByteArray → List (ByteArray × Int)
  | [], _ => []
  | e :: r, seen => if stg e = 0 ∨ e.1 ∈ seen then clF r seen else (e.1, e.2.2.1) :: clF r (seen ++ [e.1])
open Classical in
noncomputable def addP (seen : List ByteArray) (p : ByteArray) : List ByteArray := if p ∈ seen then seen else seen ++ [p]
theorem addP_len (seen : List ByteArray) (p : ByteArray) : (addP seen p).length ≤ seen.length + 1 := by
  unfold addP; split <;> simp
theorem spec_put9_loop (S : List ByteArray) (hS : S.length ≤ 1048576) (p : ByteArray) (hs : S.Pairwise fun a b => cmp a b < 0) (hp : ∀ q ∈ S, cmp q p < 0 ∨ q = p) :
    ∀ (m i : Nat), i + m = S.length → (∀ j (hj : j < S.length), j < i → cmp S[j] p < 0) → spec_l9Put_L2.s S p (i : Int) = some (addP S p)
  | 0, i, h, hb => by
    have hi : i = S.length := by omega
    subst hi
    have hn : p ∉ S := by
      intro hm
      obtain ⟨j, hj, e⟩ := List.getElem_of_mem hm
      have := hb j hj hj
      rw [e, cmp_self] at this
      omega
    unfold addP
    rw [if_neg hn, spec_l9Put_L2.e]
    simp (disch := first | omega | (simp; omega)) only [if_neg, if_pos, Int.toNat_natCast, fill1, List.nil_append, List.drop_zero, List.take_length, List.drop_length, List.append_nil]
  | m + 1, i, h, hb => by
    have hi : i < S.length := by omega
    rw [spec_l9Put_L2.e]
    simp (disch := omega) only [if_pos, Int.toNat_natCast, nth_at (t := .str) hi, wrap_succ]
    rcases hp _ (List.getElem_mem hi) with hlt | he
    · have hb' : BLt S[i] p := (blt_iff _ _).2 hlt
      rw [if_pos hb']
      refine spec_put9_loop S hS p hs hp m (i + 1) (by omega) fun j hj hji => ?_
      rcases Nat.lt_or_ge j i with hl | hg
      · exact hb j hj hl
      · have : j = i := by omega
        subst this; exact hlt
    · have hb' : ¬ BLt S[i] p := by rw [blt_iff, he, cmp_self]; omega
      have hm : p ∈ S := by rw [← he]; exact List.getElem_mem hi
      unfold addP
      rw [if_neg hb', if_pos he, if_pos hm]
theorem spec_put9 (S : List ByteArray) (hS : S.length ≤ 1048576) (p : ByteArray) (hs : S.Pairwise fun a b => cmp a b < 0) (hp : ∀ q ∈ S, cmp q p < 0 ∨ q = p) : spec_l9Put.s S p = some (addP S p) := by
  rw [spec_l9Put.e]
  exact spec_put9_loop S hS p hs hp S.length 0 (by omega) fun j _ h => by omega
theorem addP_srt {S : List ByteArray} {p : ByteArray} (hs : S.Pairwise fun a b => cmp a b < 0) (hp : ∀ q ∈ S, cmp q p < 0 ∨ q = p) : (addP S p).Pairwise fun a b => cmp a b < 0 := by
  unfold addP
  split
  · exact hs
  · rename_i hn
    rw [List.pairwise_append]
    refine ⟨hs, by simp, fun a ha b hb => ?_⟩
    rw [List.mem_singleton] at hb
    subst hb
    rcases hp a ha with h | h
    · exact h
    · subst h; exact absurd ha hn
theorem addP_mem {S : List ByteArray} {p q : ByteArray} : q ∈ addP S p ↔ q ∈ S ∨ q = p := by
  unfold addP
  split
  · rename_i h
    exact ⟨.inl, fun k => k.elim id fun e => e ▸ h⟩
  · simp
theorem ix_le {l : List T_Entry.den} (h : OkIx l l.length) {i j : Nat} (hi : i < l.length) (hj : j < l.length) (hij : i < j) : cmp (l[i] : T_Entry.den).1 (l[j] : T_Entry.den).1 < 0 ∨ (l[i] : T_Entry.den).1 = (l[j] : T_Entry.den).1 := by
  obtain ⟨k, rfl⟩ : ∃ k, j = i + 1 + k := ⟨j - (i + 1), by omega⟩
  exact ltE_le (ix_lt h k i hj)
theorem spec_clash_loop (l : List T_Entry.den) (hl : l.length ≤ 1048576) (ho : OkIx l l.length) : ∀ (m i : Nat) (S : List ByteArray), i + m = l.length → S.length ≤ i →
    S.Pairwise (fun a b => cmp a b < 0) → (∀ q ∈ S, ∃ j, ∃ hj : j < l.length, j < i ∧ q = (l[j] : T_Entry.den).1) →
    spec_l10Clashes_L3.s l S (i : Int) = some (S ++ (clF (l.drop i) S).map (·.1))
  | 0, i, S, h, hlen, hs, hq => by
    rw [spec_l10Clashes_L3.e, if_neg (by omega), List.drop_eq_nil_of_le (by omega)]
    simp [clF]
  | m + 1, i, S, h, hlen, hs, hq => by
    have hi : i < l.length := by omega
    have hle : ∀ q ∈ S, cmp q (l[i] : T_Entry.den).1 < 0 ∨ q = (l[i] : T_Entry.den).1 := by
      intro q hm
      obtain ⟨j, hj, hji, rfl⟩ := hq q hm
      exact ix_le ho hj hi hji
    have hst := ho.st i hi hi
    have hq' : ∀ T : List ByteArray, (∀ q ∈ T, q ∈ S ∨ q = (l[i] : T_Entry.den).1) → ∀ q ∈ T, ∃ j, ∃ hj : j < l.length, j < i + 1 ∧ q = (l[j] : T_Entry.den).1 := by
      intro T hT q hm
      rcases hT q hm with h1 | h1
      · obtain ⟨j, hj, hji, e⟩ := hq q h1
        exact ⟨j, hj, by omega, e⟩
      · exact ⟨i, hi, by omega, h1⟩
    rw [spec_l10Clashes_L3.e, List.drop_eq_getElem_cons hi]
    simp (disch := omega) only [if_pos, Int.toNat_natCast, nth_at (t := T_Entry) hi, wrap_succ]
    by_cases h0 : stg l[i] = 0
    · have hn : ¬ stg l[i] > 0 := by omega
      rw [if_neg hn, spec_clash_loop l hl ho m (i + 1) S (by omega) (by omega) hs (hq' S fun q h => .inl h)]
      rw [clF, if_pos (.inl h0)]
    · have hp : stg l[i] > 0 := by omega
      rw [if_pos hp, spec_put9 S (by omega) _ hs hle, Option.bind_some]
      have hal := addP_len S (l[i] : T_Entry.den).1
      rw [spec_clash_loop l hl ho m (i + 1) _ (by omega) (by omega) (addP_srt hs hle) (hq' _ fun q h => addP_mem.1 h), clF]
      unfold addP
      by_cases hm : (l[i] : T_Entry.den).1 ∈ S
      · rw [if_pos hm, if_pos (.inr hm)]
      · rw [if_neg hm, if_neg (by rintro (h | h); exact h0 h; exact hm h)]
        simp
theorem spec_clashes (l : List T_Entry.den) (hl : l.length ≤ 1048576) (ho : OkIx l l.length) : spec_l10Clashes.s l = some ((clF l []).map (·.1)) := by
  rw [spec_l10Clashes.e]
  have := spec_clash_loop l hl ho l.length 0 [] (by omega) (by simp) List.Pairwise.nil (by simp)
  rw [List.drop_zero, List.nil_append] at this
  exact this
theorem clF_mem : ∀ (r : List T_Entry.den) (S : List ByteArray) (x : ByteArray × Int), x ∈ clF r S → x.1 ∉ S ∧ ∃ e ∈ r, e.1 = x.1 ∧ stg e ≠ 0
  | [], S, x, hx => by simp [clF] at hx
  | e :: r, S, x, hx => by
    rw [clF] at hx
    by_cases hc : stg e = 0 ∨ e.1 ∈ S
    · rw [if_pos hc] at hx
      obtain ⟨h1, a, h2, h3⟩ := clF_mem r S x hx
      exact ⟨h1, a, List.mem_cons_of_mem _ h2, h3⟩
    · rw [if_neg hc] at hx
      rcases List.mem_cons.1 hx with rfl | hx
      · exact ⟨fun h => hc (.inr h), e, by simp, rfl, fun h => hc (.inl h)⟩
      · obtain ⟨h1, a, h2, h3⟩ := clF_mem r _ x hx
        exact ⟨fun h => h1 (List.mem_append_left _ h), a, List.mem_cons_of_mem _ h2, h3⟩
theorem clF_len : ∀ (r : List T_Entry.den) (S : List ByteArray), (clF r S).length ≤ r.length
  | [], S => by simp [clF]
  | e :: r, S => by
    rw [clF]
    have h1 := clF_len r S
    have h2 := clF_len r (S ++ [e.1])
    split <;> simp <;> omega
/-! #### files in the order of their paths -/
open Classical in
noncomputable def ap (A : List ByteArray) (x : ByteArray) : List ByteArray := if A.getLast? = some x then A else A ++ [x]
noncomputable def dd (X : List ByteArray) : List ByteArray := X.foldl ap []
theorem ap_last (A : List ByteArray) (x : ByteArray) : (ap A x).getLast? = some x := by
  unfold ap
  split
  · assumption
  · simp
theorem dd_take (X : List ByteArray) {i : Nat} (hi : i < X.length) : dd (X.take (i + 1)) = ap (dd (X.take i)) X[i] := by
  unfold dd
  rw [List.take_add_one, List.getElem?_eq_getElem hi, List.foldl_append]
  rfl
theorem dd_last (X : List ByteArray) {i : Nat} (h0 : 0 < i) (hi : i ≤ X.length) : (dd (X.take i)).getLast? = some (X[i - 1]'(by omega)) := by
  obtain ⟨j, rfl⟩ : ∃ j, i = j + 1 := ⟨i - 1, by omega⟩
  rw [dd_take X (by omega), ap_last]
  simp
theorem compact_L9 (X : List ByteArray) (hX : X.length ≤ 1048576) (o : Nat) (ho : o ≤ X.length) : ∀ (k i j : Nat) (m : List ByteArray), o + j + k = X.length → 1 ≤ j → 1 ≤ i → i < o + j → m.length = X.length → m.take i = dd (X.take (o + j)) → m.drop i = X.drop i →
    slices_Compact___string_string__L9.s X.length (i : Int) o (X.length - o) (j : Int) m = some (dd X)
  | 0, i, j, m, hk, hj, hi0, hi, hm, h1, h2 => by
    have e : o + j = X.length := by omega
    rw [slices_Compact___string_string__L9.e, if_neg (by omega), if_pos (by omega), if_pos (by omega), Int.toNat_natCast]
    unfold splice
    rw [List.drop_zero, Nat.sub_zero, List.append_assoc, List.take_append_of_le_length (by rw [List.length_take]; omega), List.take_take, Nat.min_self, h1, e, List.take_length]
  | k + 1, i, j, m, hk, hj, hi0, hi, hm, h1, h2 => by
    have hjx : o + j < X.length := by omega
    have at_ : ∀ q (hq : q < X.length), i ≤ q → nth Ty.str m q = X[q] := fun q hq hiq => by
      rw [nth_at (t := .str) (by omega : q < m.length)]
      have hd : (m.drop i)[q - i]? = (X.drop i)[q - i]? := by rw [h2]
      rw [List.getElem?_drop, List.getElem?_drop, show i + (q - i) = q by omega, List.getElem?_eq_getElem (by omega), List.getElem?_eq_getElem hq] at hd
      exact Option.some.inj hd
    have n1 := at_ (o + j) hjx (by omega)
    have n2 := at_ (o + (j - 1)) (by omega) (by omega)
    rw [slices_Compact___string_string__L9.e, if_pos (by omega), if_pos (by omega), wrap_pred (by omega) (by omega), if_pos (by omega), Int.toNat_natCast, Int.toNat_natCast, n1, n2, wrap_succ (by omega)]
    have hl := dd_last X (i := o + j) (by omega) (by omega)
    have hs := dd_take X hjx
    by_cases he : X[o + j] = X[o + (j - 1)]
    · rw [if_pos he]
      refine compact_L9 X hX o ho k i (j + 1) m (by omega) (by omega) hi0 (by omega) hm ?_ h2
      rw [h1, show o + (j + 1) = o + j + 1 by omega, hs]
      unfold ap
      rw [if_pos]
      rw [hl, he]
      congr 2
      omega
    · rw [if_neg he, if_pos (by omega), if_pos (by omega), wrap_succ (by omega), Int.toNat_natCast]
      refine compact_L9 X hX o ho k (i + 1) (j + 1) (m.set i X[o + j]) (by omega) (by omega) (by omega) (by omega) (by rw [List.length_set]; exact hm) ?_ ?_
      · rw [take_set (by omega), h1, show o + (j + 1) = o + j + 1 by omega, hs]
        unfold ap
        rw [if_neg]
        rw [hl]
        intro k'
        have k' := Option.some.inj k'
        apply he
        rw [← k']
        congr 1
        omega
      · rw [List.drop_set_of_lt (by omega), ← List.drop_drop, h2, List.drop_drop]
theorem compact_L4 (X : List ByteArray) (hX : X.length ≤ 1048576) : ∀ (k i : Nat), i + k = X.length → 1 ≤ i → dd (X.take i) = X.take i → slices_Compact___string_string__L4.s X.length (i : Int) X = some (dd X)
  | 0, i, hk, hi0, h1 => by
    have e : i = X.length := by omega
    rw [slices_Compact___string_string__L4.e, if_neg (by omega)]
    rw [e, List.take_length] at h1
    rw [h1]
  | k + 1, i, hk, hi0, h1 => by
    have hi : i < X.length := by omega
    have n1 : nth Ty.str X i = X[i] := nth_at (t := .str) hi
    have n2 : nth Ty.str X (i - 1) = X[i - 1]'(by omega) := nth_at (t := .str) (by omega)
    have hl := dd_last X (i := i) (by omega) (by omega)
    have hs := dd_take X hi
    rw [slices_Compact___string_string__L4.e, if_pos (by omega), if_pos (by omega), wrap_pred (by omega) (by omega), if_pos (by omega), Int.toNat_natCast, Int.toNat_natCast, n1, n2, wrap_succ (by omega)]
    by_cases he : X[i] = X[i - 1]'(by omega)
    · rw [if_pos he, if_pos (by omega)]
      refine compact_L9 X hX i (by omega) k i 1 X (by omega) (by omega) hi0 (by omega) rfl ?_ rfl
      rw [hs]
      unfold ap
      rw [if_pos (by rw [hl, he]), h1]
    · rw [if_neg he]
      refine compact_L4 X hX k (i + 1) (by omega) (by omega) ?_
      rw [hs]
      unfold ap
      rw [if_neg (by rw [hl]; intro k'; exact he (Option.some.inj k').symm), h1, List.take_add_one, List.getElem?_eq_getElem hi]
      rfl
theorem compact_s (X : List ByteArray) (hX : X.length ≤ 1048576) : slices_Compact___string_string_.s X = some (dd X) := by
  rw [slices_Compact___string_string_.e]
  by_cases h : (X.length : Int) < 2
  · rw [if_pos h]
    match X, h with
    | [], _ => rfl
    | [x], _ => simp [dd, ap]
    | a :: b :: r, h => simp at h; omega
  · rw [if_neg h]
    refine compact_L4 X hX (X.length - 1) 1 (by omega) (by omega) ?_
    have h0 : 0 < X.length := by omega
    have := dd_take X h0
    rw [Nat.zero_add] at this
    rw [this]
    match X, h0 with
    | x :: r, _ => simp [dd, ap]
def abP (r : List T_Entry.den) : List ByteArray := (r.filter fun e => decide (stg e > 0)).map (·.1)
theorem clF_ap : ∀ (r : List T_Entry.den) (S : List ByteArray), (S.Pairwise fun a b => cmp a b < 0) → (∀ q ∈ S, ∀ e ∈ r, cmp q e.1 < 0 ∨ q = e.1) → (r.Pairwise fun x y => cmp x.1 y.1 < 0 ∨ x.1 = y.1) → (∀ e ∈ r, 0 ≤ stg e) →
    S ++ (clF r S).map (·.1) = (abP r).foldl ap S
  | [], S, _, _, _, _ => by simp [clF, abP]
  | e :: r, S, hS, hq, hr, h0 => by
    rw [List.pairwise_cons] at hr
    have ih := fun S' a b => clF_ap r S' a b hr.2 fun x hx => h0 x (by simp [hx])
    have hz := h0 e (by simp)
    unfold clF
    by_cases hs : stg e = 0
    · rw [if_pos (.inl hs)]
      have : abP (e :: r) = abP r := by
        unfold abP
        rw [List.filter_cons_of_neg (by simp; omega)]
      rw [this]
      exact ih S hS fun q hq' x hx => hq q hq' x (by simp [hx])
    · have : abP (e :: r) = e.1 :: abP r := by
        unfold abP
        rw [List.filter_cons_of_pos (by simp; omega)]
        rfl
      rw [this, List.foldl_cons]
      by_cases hm : e.1 ∈ S
      · have hlast : S.getLast? = some e.1 := by
          obtain ⟨A, z, rfl⟩ : ∃ A z, S = A ++ [z] := by
            rcases List.eq_nil_or_concat S with rfl | ⟨A, z, h⟩
            · cases hm
            · exact ⟨A, z, by rw [h, List.concat_eq_append]⟩
          rw [List.getLast?_append]
          show some z = _
          rcases List.mem_append.1 hm with hm' | hm'
          · have h1 := (List.pairwise_append.1 hS).2.2 _ hm' z (by simp)
            rcases hq z (by simp) e (by simp) with h2 | h2
            · have := cmp_trans h1 h2
              rw [cmp_self] at this
              omega
            · rw [h2]
          · rw [List.mem_singleton.1 hm']
        have ha : ap S e.1 = S := by unfold ap; rw [if_pos hlast]
        rw [if_pos (.inr hm), ha]
        exact ih S hS fun q hq' x hx => hq q hq' x (by simp [hx])
      · have ha : ap S e.1 = S ++ [e.1] := by
          unfold ap
          rw [if_neg]
          intro k
          exact hm (List.mem_of_getLast? k)
        rw [if_neg (fun k => k.elim hs hm), ha]
        have := ih (S ++ [e.1]) (by
          rw [List.pairwise_append]
          refine ⟨hS, by simp, fun a ha' b hb => ?_⟩
          rw [List.mem_singleton.1 hb]
          rcases hq a ha' e (by simp) with h | h
          · exact h
          · exact absurd (h ▸ ha') hm) (fun q hq' x hx => by
          rcases List.mem_append.1 hq' with h | h
          · exact hq q h x (by simp [hx])
          · rw [List.mem_singleton.1 h]
            exact hr.1 x hx)
        rw [← this]
        simp
theorem impl_clash_loop10 (l : List T_Entry.den) (hl : l.length ≤ 1048576) : ∀ (k i : Nat) (m : List ByteArray), i + k = l.length → m.length ≤ i →
    impl_clashesIn_L3.s m.length l (l.length : Int) (i : Int) m = slices_Compact___string_string_.s (m ++ abP (l.drop i))
  | 0, i, m, h, hm => by
    rw [impl_clashesIn_L3.e, if_neg (by omega), List.drop_eq_nil_of_le (by omega)]
    have : abP [] = [] := rfl
    rw [this, List.append_nil]
    cases slices_Compact___string_string_.s m <;> rfl
  | k + 1, i, m, h, hm => by
    have hi : i < l.length := by omega
    have hn : nth T_Entry l (i : Int).toNat = l[i] := by rw [Int.toNat_natCast]; exact nth_at hi
    rw [impl_clashesIn_L3.e, if_pos (by omega), if_pos (by omega), hn, wrap_succ (by omega), fill1, List.drop_eq_getElem_cons hi]
    by_cases hs : stg l[i] > 0
    · have e : abP (l[i] :: l.drop (i + 1)) = (l[i] : T_Entry.den).1 :: abP (l.drop (i + 1)) := by
        unfold abP
        rw [List.filter_cons_of_pos (by simp; omega)]
        rfl
      rw [if_pos hs, if_pos (by simp; omega), impl_clash_loop10 l hl k (i + 1) _ (by omega) (by simp; omega), e]
      simp
    · have e : abP (l[i] :: l.drop (i + 1)) = abP (l.drop (i + 1)) := by
        unfold abP
        rw [List.filter_cons_of_neg (by simp; omega)]
      rw [if_neg hs, impl_clash_loop10 l hl k (i + 1) m (by omega) (by omega), e]
theorem abP_len (l : List T_Entry.den) : (abP l).length ≤ l.length := by unfold abP; rw [List.length_map]; exact List.length_filter_le _ _
theorem impl_clashes10 (l : List T_Entry.den) (hl : l.length ≤ 1048576) (ho : OkIx l l.length) : impl_clashesIn.s l = some ((clF l []).map (·.1)) := by
  have h1 := impl_clash_loop10 l hl l.length 0 [] (by omega) (by simp)
  rw [List.drop_zero, List.nil_append] at h1
  have h2 := abP_len l
  have hp : l.Pairwise fun x y => cmp x.1 y.1 < 0 ∨ x.1 = y.1 := List.pairwise_iff_getElem.2 fun i j hi hj hij => ix_le ho hi hj hij
  have h3 := clF_ap l [] List.Pairwise.nil (by simp) hp (fun e he => by
    obtain ⟨j, hj, rfl⟩ := List.getElem_of_mem he
    exact (ho.st j hj hj).1)
  rw [List.nil_append] at h3
  rw [impl_clashesIn.e, h3]
  refine Eq.trans h1 ?_
  exact compact_s _ (by omega)
/-! #### modes -/
theorem stF_find (l : List T_Entry.den) (p : ByteArray) (k : Int) : stF l p k = (l.find? fun e => decide (e.1 = p ∧ stg e = k)).elim zF toF := by
  unfold stF ofP
  rw [List.find?_filter]
  congr 1
  congr 1
  funext e
  simp
theorem modeIn_s (l : List T_Entry.den) (hl : l.length ≤ 1048576) (p : ByteArray) (k : Int) : impl_modeIn.s l p k = some ((stF l p k).2.1) := by
  rw [impl_modeIn.e, impl_modeIn_L1.e, slices_IndexFunc___impl_Entry_impl_Entry_.e]
  have := row_find0 (t := T_Entry) (L := fun i => slices_IndexFunc___impl_Entry_impl_Entry__L2.s l p k (l.length : Int) i) (q := fun e => decide (e.1 = p ∧ stg e = k)) hl
    (by show slices_IndexFunc___impl_Entry_impl_Entry__L2.s l p k _ _ = _; rw [slices_IndexFunc___impl_Entry_impl_Entry__L2.e, if_neg (by omega)])
    (fun i hi hq => by
      show slices_IndexFunc___impl_Entry_impl_Entry__L2.s l p k _ _ = _
      rw [slices_IndexFunc___impl_Entry_impl_Entry__L2.e]
      simp (disch := omega) only [if_pos, Int.toNat_natCast, nth_at (t := T_Entry) hi, wrap_succ]
      have hq := of_decide_eq_true hq
      have h1 : (l[i] : T_Entry.den).1 = nth Ty.str [p] 0 := hq.1
      have h2 : (l[i] : T_Entry.den).2.1 = nth (Ty.int IntKind.i64) [k] 0 := hq.2
      rw [if_pos h1, if_pos h2])
    (fun i hi hq => by
      show slices_IndexFunc___impl_Entry_impl_Entry__L2.s l p k _ _ = slices_IndexFunc___impl_Entry_impl_Entry__L2.s l p k _ _
      conv => lhs; rw [slices_IndexFunc___impl_Entry_impl_Entry__L2.e]
      simp (disch := omega) only [if_pos, Int.toNat_natCast, nth_at (t := T_Entry) hi, wrap_succ]
      have hq := of_decide_eq_false hq
      by_cases h1 : (l[i] : T_Entry.den).1 = nth Ty.str [p] 0
      · have h2 : ¬ (l[i] : T_Entry.den).2.1 = nth (Ty.int IntKind.i64) [k] 0 := fun h => hq ⟨h1, h⟩
        rw [if_pos h1, if_neg h2]
      · rw [if_neg h1])
  have h0 : slices_IndexFunc___impl_Entry_impl_Entry__L2.s l p k (l.length : Int) 0 = _ := this
  rw [h0, Option.bind_some, stF_find]
  cases hf : l.findIdx? (fun e : T_Entry.den => decide (e.1 = p ∧ stg e = k)) with
  | none =>
    have : l.find? (fun e : T_Entry.den => decide (e.1 = p ∧ stg e = k)) = none := by
      rw [List.find?_eq_none]
      rw [List.findIdx?_eq_none_iff] at hf
      intro x hx
      rw [hf x hx]; simp
    rw [this]
    rfl
  | some n =>
    obtain ⟨h1, h2, h3⟩ := List.findIdx?_eq_some_iff_getElem.1 hf
    have : l.find? (fun e : T_Entry.den => decide (e.1 = p ∧ stg e = k)) = some l[n] := by
      rw [List.find?_eq_some_iff_getElem]
      exact ⟨h2, n, h1, rfl, fun j hj => by
        have h := h3 j hj
        simp at h ⊢
        by_cases h5 : (l[j]'(by omega) : T_Entry.den).1 = p
        · exact .inr (h h5)
        · exact .inl h5⟩
    rw [this]
    dsimp only
    rw [if_neg (by omega), if_pos (by omega), Int.toNat_natCast, nth_at (t := T_Entry) h1]
    rfl
/-! #### a path settled -/
theorem bind_same {α : Type} (x : Option α) : (x.bind fun r => some r) = x := by cases x <;> rfl
theorem spec_resolve_loop (E : List T_Entry.den) (hE : E.length ≤ 1000000) (p : ByteArray) (md : Int) (id : ByteArray) : ∀ (k i : Nat) (m : List T_Entry.den), i + k = E.length → m.length ≤ i →
    spec_l10Resolve_L3.s E p md id m.length (i : Int) m = if md = 0 then some (m ++ (E.drop i).filter (noP p)) else spec_l10Put.s (m ++ (E.drop i).filter (noP p)) (p, (0 : Int), md, id, ())
  | 0, i, m, h, hm => by
    rw [spec_l10Resolve_L3.e, if_neg (by omega), List.drop_eq_nil_of_le (by omega), List.filter_nil, List.append_nil, bind_same]
  | k + 1, i, m, h, hm => by
    have hi : i < E.length := by omega
    have hn : nth T_Entry E (i : Int).toNat = E[i] := by rw [Int.toNat_natCast]; exact nth_at hi
    rw [spec_l10Resolve_L3.e, if_pos (by omega), if_pos (by omega), hn, wrap_succ (by omega), List.drop_eq_getElem_cons hi]
    by_cases he : (E[i] : T_Entry.den).1 = p
    · rw [if_pos he, spec_resolve_loop E hE p md id k (i + 1) m (by omega) (by omega), List.filter_cons_of_neg (by unfold noP; simp [he])]
    · have hf : fillElems [((0 : Nat), ((E[i] : T_Entry.den).1, (E[i] : T_Entry.den).2.1, (E[i] : T_Entry.den).2.2.1, (E[i] : T_Entry.den).2.2.2.1, ()))] (List.replicate (1 : Nat) (noS, (0 : Int), (0 : Int), noS, ())) = [E[i]] := rfl
      rw [if_neg he, if_pos (by omega), hf, if_pos (by simp; omega), spec_resolve_loop E hE p md id k (i + 1) _ (by omega) (by simp; omega), List.filter_cons_of_pos (by unfold noP; simp [he])]
      simp
structure Rsd (p : ByteArray) (md : Int) (id : ByteArray) (E r : List T_Entry.den) : Prop where
  si : SI r
  len : r.length ≤ E.length + 1
  mem : ∀ e ∈ r, e ∈ E ∨ e = (p, (0 : Int), md, id, ())
theorem resolve_both (E : List T_Entry.den) (hE : E.length ≤ 1000000) (hs : SI E) (p : ByteArray) (md : Int) (id : ByteArray) : ∃ r, spec_l10Resolve.s E p md id = some r ∧ impl_resolve.s E p md id = some r ∧ Rsd p md id E r := by
  have h1 := spec_resolve_loop E hE p md id E.length 0 [] (by omega) (by simp)
  rw [List.drop_zero, List.nil_append] at h1
  have h1 : spec_l10Resolve_L3.s E p md id 0 0 [] = _ := h1
  have hfl : (E.filter (noP p)).length ≤ E.length := List.length_filter_le _ _
  have hsi : SI (E.filter (noP p)) := si_filter hs _
  have hmem : ∀ e ∈ E.filter (noP p), e ∈ E ∧ e.1 ≠ p := fun e he => by
    obtain ⟨a, b⟩ := List.mem_filter.1 he
    unfold noP at b
    exact ⟨a, by simpa using b⟩
  rw [spec_l10Resolve.e, impl_resolve.e, impl_resolve_L1.e, h1, clone_s E (by omega), Option.bind_some, del_s E (by omega), Option.bind_some]
  by_cases hz : md = 0
  · rw [if_pos hz, if_pos hz]
    exact ⟨_, rfl, rfl, hsi, by omega, fun e he => .inl (hmem e he).1⟩
  rw [if_neg hz, if_neg hz]
  generalize hF : E.filter (noP p) = F at *
  let e : T_Entry.den := (p, (0 : Int), md, id, ())
  obtain ⟨i, ha, hb⟩ := bs_all (t := T_Entry) (κ := T_Entry.den) (C := impl_compareEntries.s) (L := fun l (q : T_Entry.den) n a b => slices_BinarySearchFunc___impl_Entry_impl_Entry_impl_Entry__L3.s l n a b q.1 q.2.1 q.2.2.1 q.2.2.2.1)
    (fun l q n a b => slices_BinarySearchFunc___impl_Entry_impl_Entry_impl_Entry__L3.e l n a b q.1 q.2.1 q.2.2.1 q.2.2.2.1) (c := fun x => ceI x e) (p := e) (l := F) (fun x _ => ce_s x e) (si_falls hsi e) (by omega)
  have hne : ∀ x ∈ F, x.1 ≠ e.1 := fun x hx => (hmem x hx).2
  have hput := put_at (by omega) hsi hne ha
  have hb : slices_BinarySearchFunc___impl_Entry_impl_Entry_impl_Entry_.s F (nth Ty.str [p] (nat_lit 0)) 0 md id = some ((i : Int), isAt (t := T_Entry) (fun x => ceI x e) F i) := (slices_BinarySearchFunc___impl_Entry_impl_Entry_impl_Entry_.e F p 0 md id).trans hb
  have hle := ha.le
  refine ⟨F.take i ++ (e :: F.drop i), hput, ?_, si_put hsi hne ha, ?_, fun x hx => ?_⟩
  · rw [hb, Option.bind_some]
    have hc : (0 : Nat) < [e].length ∧ (0 : Int) ≤ (i : Int) ∧ (i : Int) ≤ (F.length : Int) ∧ F.length + [e].length < 4294967296 := ⟨by simp, by omega, by omega, by simp; omega⟩
    refine (if_pos hc).trans ?_
    simp only [Int.toNat_natCast]
    rfl
  · simp; omega
  · rcases List.mem_append.1 hx with hx | hx
    · exact .inl (hmem x (List.mem_of_mem_take hx)).1
    · rcases List.mem_cons.1 hx with hx | hx
      · exact .inr hx
      · exact .inl (hmem x (List.mem_of_mem_drop hx)).1
/-! #### the clashes one by one -/
structure SmallP (r : T_ReplayResult.den) : Prop where
  st : r.2.2.1.length ≤ 1048576
  ix : r.2.2.2.1.length ≤ 1048576
  bulk : bulk T_ReplayResult r ≤ 9223372036854775806
theorem smallP_bad (c : Int) : SmallP (c, (0 : Int), [], [], ()) := ⟨by simp, by simp, by show 0 + (0 + (0 + (0 + 0))) ≤ _; omega⟩
theorem smallP_of {s : List T_Object.den} (hs : OkStore s) {E : List T_Entry.den} (hE : E.length ≤ 1048576) (he : ∀ x ∈ E, (x.1 : ByteArray).size ≤ 1048576 ∧ (x.2.2.2.1 : ByteArray).size ≤ 1048576) (d : Int) : SmallP ((0 : Int), d, s, E, ()) := by
  have hl := hs.len
  refine ⟨by show s.length ≤ _; omega, hE, ?_⟩
  have h1 := bulk_store hs
  have h2 : Ev.bulk (.sl T_Entry) E ≤ E.length * (3000000 + 1) := bulk_le fun o ho => by
    obtain ⟨h1, h2⟩ := he o ho
    show (o.1 : ByteArray).size + (0 + (0 + ((o.2.2.2.1 : ByteArray).size + 0))) ≤ 3000000
    omega
  show 0 + (0 + (Ev.bulk (.sl T_Object) s + (Ev.bulk (.sl T_Entry) E + 0))) ≤ _
  have h4 : E.length * (3000000 + 1) ≤ 1048576 * 3000001 := Nat.mul_le_mul_right _ hE
  omega
theorem putO_idle (s : List T_Object.den) (d : ByteArray) (h : (putO s 1 d).2.2 = 0) : (putO s 1 d).2.1 = idB 1 d := by
  unfold putO at h ⊢
  split
  · rename_i i hi
    rw [hi] at h
    by_cases k : (nth T_Object s i).2.2.1 = d
    · simp only [if_pos k]
    · simp only [if_neg k] at h
      cases h
  · rename_i hi
    rw [hi] at h
    by_cases k : s.length ≥ 200
    · simp only [if_pos k] at h; cases h
    · simp only [if_neg k]
section
variable {s : List T_Object.den} (ho : OkStore s) {l : List T_Entry.den} (hl : l.length ≤ 200) (hix : OkIx l l.length) {R : List T_Rule.den} (hR : OkRules R) (ps : List ByteArray) (hps : ps.length ≤ 200) (hpz : ∀ p ∈ ps, p.size ≤ 1048576)
include ho hl hix hR hps hpz in
theorem replay_loop : ∀ (k i d : Nat) (s' : List T_Object.den) (E : List T_Entry.den), i + k = ps.length → d ≤ i → OkStore s' → SI E → E.length ≤ 200 + i → (∀ e ∈ E, (e.1 : ByteArray).size ≤ 1048576 ∧ (e.2.2.2.1 : ByteArray).size ≤ 1048576) →
    ∃ A, spec_ReplayRules_L13.s s l R ps (i : Int) 0 0 0 (d : Int) s' E = some A ∧ impl_replay_L3.s s l R ps.length (ps.length : Int) (i : Int) 0 0 0 (d : Int) s'.length E.length ps s' E = some A ∧ SmallP A
  | 0, i, d, s', E, h, hd, ho', hE, hEl, hez => by
    refine ⟨((0 : Int), (d : Int), s', E, ()), ?_, ?_, smallP_of ho' (by omega) hez d⟩
    · rw [spec_ReplayRules_L13.e, if_neg (by omega)]
    · rw [impl_replay_L3.e, if_neg (by omega)]
  | k + 1, i, d, s', E, h, hd, ho', hE, hEl, hez => by
    have hi : i < ps.length := by omega
    have hls := ho.len
    have skip := replay_loop k (i + 1) d s' E (by omega) (by omega) ho' hE (by omega) hez
    have hn : nth Ty.str ps (i : Int).toNat = ps[i] := by rw [Int.toNat_natCast]; exact nth_at (t := .str) hi
    have hpi := hpz _ (List.getElem_mem hi)
    rw [spec_ReplayRules_L13.e, impl_replay_L3.e, hn]
    generalize hp : ps[i] = p at *
    obtain ⟨r, r1, r2⟩ := preOf_all ho (by omega) (by omega) hix p
    obtain ⟨a, a1, a2, a3⟩ := ruleAt_all hR r.2.1
    have c1 : (i : Int) < (ps.length : Int) := by omega
    have c2 : (0 : Int) ≤ (i : Int) ∧ (i : Int) < (ps.length : Int) := by omega
    have m2 := modeIn_s l (by omega) p 2
    have m3 := modeIn_s l (by omega) p 3
    have t2 := spec_st l (by omega) p 2
    have t3 := spec_st l (by omega) p 3
    have hw : IntKind.i64.wrap ((i : Int) + 1) = ((i + 1 : Nat) : Int) := wrap_succ (by omega)
    have hw2 : IntKind.i64.wrap ((d : Int) + 1) = ((d + 1 : Nat) : Int) := wrap_succ (by omega)
    simp only [if_pos c1, if_pos c2, r1, r2, a1, a3, m2, m3, t2, t3, Option.bind_some, hw, hw2]
    by_cases h1 : (r.1 : Int) = 0
    rotate_left
    · simp only [if_neg h1]; exact skip
    simp only [if_pos h1]
    cases ha : plc (t := T_Rule) rk R r.2.1 with
    | none =>
      have n1 : ¬ (0 : Int) ≤ -1 := by decide
      simp only [Option.isSome_none, Bool.false_eq_true, if_false]
      rw [if_pos (by decide)]
      exact skip
    | some n =>
      have hlt := plc_lt ha
      have han := a2 n ha
      have n1 : ¬ (n : Int) < 0 := by omega
      simp only [Option.isSome_some, if_true, if_neg n1]
      by_cases h2 : (stF l p 2).2.1 = (stF l p 3).2.1
      rotate_left
      · simp only [if_neg h2]; exact skip
      have hRl := hR.len
      have n2 : (0 : Int) ≤ (n : Int) ∧ (n : Int) < (R.length : Int) := by omega
      have hnr : nth T_Work R (n : Int).toNat = R[n] := by rw [Int.toNat_natCast]; exact nth_at (t := T_Rule) hlt
      have htf := hR.post _ (List.getElem_mem hlt)
      have htz := tf_size htf
      simp only [if_pos h2, han, if_pos n2, hnr]
      rw [spec_putO ho' 1 _ (by omega) (by omega) (by omega), impl_putO ho' 1 _ (by omega) (by omega) (by omega), Option.bind_some, Option.bind_some]
      generalize hpost : (R[n] : T_Rule.den).2.1 = post at *
      by_cases h3 : (putO s' 1 post).2.2 = 0
      rotate_left
      · rw [if_neg h3, if_neg h3]
        exact ⟨_, rfl, rfl, smallP_bad _⟩
      rw [if_pos h3, if_pos h3]
      obtain ⟨E', e1, e2, e3⟩ := resolve_both E (by omega) hE p (stF l p 2).2.1 (putO s' 1 post).2.1
      rw [e1, e2, Option.bind_some, Option.bind_some]
      have hid := putO_idle s' post h3
      have hok := putO_ok ho' (k := 1) (by omega) (by omega) htf h3
      refine replay_loop k (i + 1) (d + 1) _ E' (by omega) (by omega) hok e3.si (by have := e3.len; omega) fun e he => ?_
      rcases e3.mem e he with he | he
      · exact hez e he
      · rw [he]
        exact ⟨hpi, by show ((putO s' 1 post).2.1 : ByteArray).size ≤ _; rw [hid, idB_size]; omega⟩
end
theorem ix_si {l : List T_Entry.den} (h : OkIx l l.length) : SI l := List.pairwise_iff_getElem.2 fun i j hi hj hij => by
  have := ix_lt h (j - (i + 1)) i (by omega)
  simpa [show i + 1 + (j - (i + 1)) = j by omega] using this
theorem replay_all (x : List T_Object.den) (hx : x.length ≤ 1048576) (y : List T_Entry.den) (hy : y.length ≤ 1048576) (hp : ∀ e ∈ y, (e.1 : ByteArray).size ≤ 1048576) (hi : ∀ e ∈ y, (e.2.2.2.1 : ByteArray).size ≤ 1048576) (z : List T_Rule.den) (hz : z.length ≤ 1048576) :
    ∃ A, spec_ReplayRules.s x y z = some A ∧ impl_ReplayRules.s x y z = some A ∧ SmallP A := by
  obtain ⟨s1, s2⟩ := storeFault_all x hx
  obtain ⟨c, c1, c2, c3⟩ := indexFault_all y hy hp
  obtain ⟨r, r1, r2, r3⟩ := rulesFault_all z hz
  have hf : impl_firstCode.s (fillElems [((0 : Nat), storeFault x), ((1 : Nat), c), ((2 : Nat), r)] (List.replicate (3 : Nat) (0 : Int))) = some (fc [storeFault x, c, r]) := firstCode_s [storeFault x, c, r] (by simp)
  rw [spec_ReplayRules.e, impl_ReplayRules.e, s1, s2, c1, c2, r1, r2]
  simp only [Option.bind_some, hf]
  by_cases h0 : storeFault x = 0
  rotate_left
  · have e : fc [storeFault x, c, r] = storeFault x := by rw [fc_cons, if_neg h0]
    rw [e, if_neg h0, if_neg h0]; exact ⟨_, rfl, rfl, smallP_bad _⟩
  by_cases h1 : c = 0
  rotate_left
  · have e : fc [storeFault x, c, r] = c := by rw [fc_cons, if_pos h0, fc_cons, if_neg h1]
    rw [e, if_pos h0, if_neg h1, if_neg h1]; exact ⟨_, rfl, rfl, smallP_bad _⟩
  by_cases h2 : r = 0
  rotate_left
  · have e : fc [storeFault x, c, r] = r := by rw [fc_cons, if_pos h0, fc_cons, if_pos h1, fc_cons, if_neg h2]
    rw [e, if_pos h0, if_pos h1, if_neg h2, if_neg h2]; exact ⟨_, rfl, rfl, smallP_bad _⟩
  have e : fc [storeFault x, c, r] = 0 := by rw [fc_cons, if_pos h0, fc_cons, if_pos h1, fc_cons, if_pos h2]; rfl
  have ho := store_ok h0 hx
  obtain ⟨hix, hl⟩ := c3 h1
  have hR := r3 h2
  have hxl := ho.len
  rw [e, if_pos h0, if_pos h1, if_pos h2, if_pos rfl, spec_copy5 x hx, Option.bind_some, if_pos (by simp; omega), spec_clashes y hy hix, Option.bind_some, List.nil_append, impl_replay.e, clone_o x hx, clone_s y hy, impl_clashes10 y hy hix]
  simp only [Option.bind_some]
  have hcl := clF_len y []
  obtain ⟨A, A1, A2, A3⟩ := replay_loop ho hl hix hR ((clF y []).map (·.1)) (by rw [List.length_map]; omega) (fun p hp' => by
    obtain ⟨q, hq, rfl⟩ := List.mem_map.1 hp'
    obtain ⟨_, e, he, he2, _⟩ := clF_mem y [] q hq
    rw [← he2]; exact hp e he) ((clF y []).map (·.1)).length 0 0 x y (by omega) (by omega) ho (ix_si hix) (by omega) fun e he => ⟨hp e he, hi e he⟩
  refine ⟨A, A1, ?_, A3⟩
  refine (bind_same _).trans ?_
  exact A2
end Go.Proofs.YtmojilihllhadaaGreatDoor.Ev
