/- A rule is learnt. -/
import Derived.Test.YtjklgmflillagaaDoorPfForget
set_option linter.unusedVariables false
set_option linter.unusedSimpArgs false
namespace Go.Proofs.YtjklgmflillagaaDoor.Ev
open Go

/-- with a rule put in at 'i' -/
def with' {β : Type} (l : List β) (i : Nat) (x : β) : List β := l.take i ++ ([x] ++ l.drop i)
theorem with_len {β : Type} (l : List β) (i : Nat) (x : β) : (with' l i x).length = l.length + 1 := by simp [with']; omega
theorem sum_set {f : T_Rule.den → Nat} : ∀ (l : List T_Rule.den) (i : Nat) (x : T_Rule.den), ((l.set i x).map f).sum ≤ (l.map f).sum + f x
  | [], i, x => by simp
  | a :: l, 0, x => by simp; omega
  | a :: l, i + 1, x => by
    have := sum_set (f := f) l i x
    simp only [List.set_cons_succ, List.map_cons, List.sum_cons]; omega
theorem set_bulk (l : List T_Rule.den) (i : Nat) (x : T_Rule.den) : bulk (.sl T_Rule) (l.set i x) ≤ bulk (.sl T_Rule) l + bulk T_Rule x := by
  have e : ∀ m : List T_Rule.den, bulk (.sl T_Rule) m = m.length + (m.map (bulk T_Rule)).sum := fun _ => rfl
  have := sum_set (f := bulk T_Rule) l i x
  rw [e, e, List.length_set]; omega
theorem with_bulk (l : List T_Rule.den) (i : Nat) (x : T_Rule.den) : bulk (.sl T_Rule) (with' l i x) = bulk (.sl T_Rule) l + 1 + bulk T_Rule x := by
  have e : ∀ m : List T_Rule.den, bulk (.sl T_Rule) m = m.length + (m.map (bulk T_Rule)).sum := fun _ => rfl
  rw [e, e, with_len]
  have h2 : (l.map (bulk T_Rule)).sum = ((l.take i).map (bulk T_Rule)).sum + ((l.drop i).map (bulk T_Rule)).sum := by
    conv => lhs; rw [← List.take_append_drop i l]
    rw [List.map_append, List.sum_append]
  rw [h2]
  unfold with'
  rw [List.map_append, List.sum_append, List.map_append, List.sum_append]
  simp only [List.map_cons, List.map_nil, List.sum_cons, List.sum_nil]
  omega

theorem fill1 {β : Type} (x z : β) : fillElems [((0 : Nat), x)] (List.replicate (1 : Nat) z) = [x] := rfl

/-- the place is looked for in a row -/
theorem learn_loop (l : List T_Rule.den) (p q : ByteArray) (hl : l.length ≤ 1048576) {i : Nat} (ha : At l p i) : ∀ (m k : Nat), k + m = i →
    Says (fun n => spec_LearnRule_L17 n p q l.length (k : Int) 0 l) ((0 : Int), with' l i (p, q, ()), ())
  | 0, k, hk => by
    have : k = i := by omega
    subst this
    have hle := ha.le
    have fin : ∀ {A : Nat → Option T_RulesResult.den}, (∀ n, A n = some ((0 : Int), with' l k (p, q, ()), ())) → Says A ((0 : Int), with' l k (p, q, ()), ()) := fun h => ⟨0, fun n _ => h n⟩
    have hdt : List.take (l.length - k) (List.drop k l) = List.drop k l := List.take_of_length_le (by simp)
    refine Says.step (fun n => spec_LearnRule_L17_eq n p q l.length k 0 l) ?_
    simp only [Int.toNat_natCast, Nat.sub_zero, List.drop_zero, List.nil_append, fill1, hdt]
    by_cases hlt : k < l.length
    · refine Says.condT (by rw [decide_eq_true (by omega)]; rfl) (Says.pos (by omega) ?_)
      refine Says.condF (by
        rw [nth_at hlt, Go.Lib.toList_data, Go.Lib.toList_data, cb_less, decide_eq_false_iff_not]
        exact ha.hi k hlt (Nat.le_refl _)) ?_
      refine Says.pos (by omega) (Says.pos (by simp; omega) (Says.pos (by simp; omega) (Says.pos (by omega) (Says.pos (by simp; omega) (fin fun n => ?_)))))
      rw [with', List.append_assoc]
    · refine Says.condF (by rw [decide_eq_false (by omega)]; rfl) ?_
      refine Says.pos (by omega) (Says.pos (by simp; omega) (Says.pos (by simp; omega) (Says.pos (by omega) (Says.pos (by simp; omega) (fin fun n => ?_)))))
      rw [with', List.append_assoc]
  | m + 1, k, hk => by
    have hle := ha.le
    have hlt : k < l.length := by omega
    refine Says.step (fun n => spec_LearnRule_L17_eq n p q l.length k 0 l) (Says.condT (by rw [decide_eq_true (by omega)]; rfl) (Says.pos (by omega) (Says.condT ?_ ?_)))
    · rw [Int.toNat_natCast, nth_at hlt, Go.Lib.toList_data, Go.Lib.toList_data, cb_less, decide_eq_true_iff]
      exact ha.lo k hlt (by omega)
    · rw [wrap_succ (by omega)]
      exact learn_loop l p q hl ha m (k + 1) (by omega)

theorem learn_says (x : List T_Rule.den) (p q : ByteArray) (hl : x.length ≤ 1048576) : ∃ r : T_RulesResult.den, Says (fun n => spec_LearnRule n x p q) r ∧ Says (fun n => impl_LearnRule n x p q) r ∧
    bulk (.sl T_Rule) r.2.1 ≤ bulk (.sl T_Rule) x + (1 + (p.size + (q.size + 0)) + bulk (.sl T_Rule) x) ∧ r.2.1.length ≤ x.length + 1 := by
  obtain ⟨r, hs, hi⟩ := rulesFault_says x hl
  by_cases h0 : r = 0
  · subst h0
    cases hp : pre p with
    | false =>
      refine ⟨((1 : Int), [], ()), ?_, ?_, Nat.zero_le _, Nat.zero_le _⟩
      · exact Says.step (fun n => spec_LearnRule_eq n x p q) (Says.bind hs (Says.condF rfl (Says.bind (spec_pre p) (Says.condT (by rw [hp]; rfl) (.now _)))))
      · refine Says.step (fun n => impl_LearnRule_eq n x p q) (Says.bind hi (Says.condF rfl (Says.bind (a := (([], (1 : Int)) : List T_Rule.den × Int)) ?_ (.now _))))
        refine Says.step (fun n => impl_learn_eq n x p q) (Says.bind (impl_pre p) (Says.bind (codeIf_says _ _) (Says.bind (impl_tf q) (Says.bind (firstCode2 _ _) ?_))))
        rw [hp]
        exact Says.condT (by simp) (.now _)
    | true =>
      by_cases ht : tf q = 0
      · have hsrt := sorted_of_fault x hl hs
        obtain ⟨i, ha, hr⟩ := ruleAt_says x p hsrt hl
        have hf := l13Find_says x p hsrt hl ha
        have hle := ha.le
        have h40 : x.length ≤ 40 := by
          by_cases h : (x.length : Int) > 40
          · have := (Says.step (fun n => spec_RulesFault_eq n x) (Says.pos h (.now _))).unique hs
            omega
          · omega
        have specd : ∀ {r : T_RulesResult.den}, Says (fun n => bif decide ((if isAt x p i then (i : Int) else -1) ≥ (0 : Int)) then bif decide ((0 : Int) ≤ (if isAt x p i then (i : Int) else -1) ∧ (if isAt x p i then (i : Int) else -1) < (x.length : Int)) then some ((0 : Int), x.set (Int.toNat (if isAt x p i then (i : Int) else -1)) ((nth T_Rule x (Int.toNat (if isAt x p i then (i : Int) else -1))).1, q, ()), ()) else none else bif decide ((x.length : Int) ≥ (40 : Int)) then some ((2 : Int), [], ()) else spec_LearnRule_L17 n p q x.length (0 : Int) (0 : Int) x) r → Says (fun n => spec_LearnRule n x p q) r := fun h =>
          Says.step (fun n => spec_LearnRule_eq n x p q) (Says.bind hs (Says.condF rfl (Says.bind (spec_pre p) (Says.condF (by rw [hp]; rfl) (Says.bind (spec_tf q) (Says.condF (by rw [ht]; rfl) (Says.pos (by simp; omega) (Says.bind hf h))))))))
        have impld : ∀ {r : List T_Rule.den × Int}, Says (fun n => bif isAt x p i then bif decide ((0 : Int) ≤ (i : Int) ∧ (i : Int) < (x.length : Int)) then some (x.set i ((nth T_Rule x i).1, q, ()), (0 : Int)) else none else bif (x.length : Int) == (40 : Int) then some ([], (2 : Int)) else bif decide ((0 : Nat) < [((p, q, ()) : T_Rule.den)].length ∧ (0 : Int) ≤ (i : Int) ∧ (i : Int) ≤ (x.length : Int) ∧ x.length + [((p, q, ()) : T_Rule.den)].length < (4294967296 : Nat)) then some (x.take i ++ ([(p, q, ())] ++ x.drop i), (0 : Int)) else none) r → Says (fun n => impl_LearnRule n x p q) (r.2, r.1, ()) := fun {r} h => by
          refine Says.step (fun n => impl_LearnRule_eq n x p q) (Says.bind hi (Says.condF rfl (Says.bind (a := r) ?_ (.now _))))
          refine Says.step (fun n => impl_learn_eq n x p q) (Says.bind (impl_pre p) (Says.bind (codeIf_says _ _) (Says.bind (impl_tf q) (Says.bind (firstCode2 _ _) ?_))))
          rw [hp, ht]
          exact Says.condF (by simp) (Says.bind hr (Says.bind (clone_says x hl) h))
        cases hat : isAt x p i with
        | true =>
          have hlt := isAt_lt hat
          rw [hat] at specd impld
          refine ⟨((0 : Int), x.set i ((nth T_Rule x i).1, q, ()), ()), ?_, ?_, ?_, by simp⟩
          · exact specd (Says.pos (by simp) (Says.pos (by simp; omega) (by simp only [if_true, Int.toNat_natCast]; exact .now _)))
          · exact impld (r := (_, _)) (Says.condT rfl (Says.pos (by omega) (.now _)))
          · have h1 := set_bulk x i ((nth T_Rule x i).1, q, ())
            have h2 := bulk_mem (t := T_Rule) (List.getElem_mem hlt)
            have h3 : bulk T_Rule x[i] = (x[i] : T_Rule.den).1.size + ((x[i] : T_Rule.den).2.1.size + 0) := rfl
            have h4 : bulk T_Rule ((nth T_Rule x i).1, q, ()) = (nth T_Rule x i).1.size + (q.size + 0) := rfl
            have h6 : bulk (.sl T_Rule) x = x.length + (x.map (bulk T_Rule)).sum := rfl
            rw [nth_at hlt] at h4 h1
            show bulk (.sl T_Rule) (x.set i ((nth T_Rule x i).1, q, ())) ≤ _
            rw [nth_at hlt]
            omega
        | false =>
          rw [hat] at specd impld
          by_cases h4 : x.length = 40
          · refine ⟨((2 : Int), [], ()), ?_, ?_, Nat.zero_le _, Nat.zero_le _⟩
            · exact specd (Says.neg (by simp) (Says.pos (by omega) (.now _)))
            · exact impld (r := (_, _)) (Says.condF rfl (Says.condT (by rw [h4]; rfl) (.now _)))
          · refine ⟨((0 : Int), with' x i (p, q, ()), ()), ?_, ?_, ?_, by rw [with_len]; omega⟩
            · exact specd (Says.neg (by simp) (Says.neg (by omega) (learn_loop x p q hl ha i 0 (by omega))))
            · exact impld (r := (_, _)) (Says.condF rfl (Says.condF (by rw [beq_eq_false_iff_ne]; omega) (Says.pos (by simp; omega) (.now _))))
            · show bulk (.sl T_Rule) (with' x i (p, q, ())) ≤ _
              rw [with_bulk]
              have h5 : bulk T_Rule (p, q, ()) = p.size + (q.size + 0) := rfl
              omega
      · refine ⟨(tf q, [], ()), ?_, ?_, Nat.zero_le _, Nat.zero_le _⟩
        · exact Says.step (fun n => spec_LearnRule_eq n x p q) (Says.bind hs (Says.condF rfl (Says.bind (spec_pre p) (Says.condF (by rw [hp]; rfl) (Says.bind (spec_tf q) (Says.condT (by simpa using ht) (.now _)))))))
        · refine Says.step (fun n => impl_LearnRule_eq n x p q) (Says.bind hi (Says.condF rfl (Says.bind (a := (([], tf q) : List T_Rule.den × Int)) ?_ (.now _))))
          refine Says.step (fun n => impl_learn_eq n x p q) (Says.bind (impl_pre p) (Says.bind (codeIf_says _ _) (Says.bind (impl_tf q) (Says.bind (firstCode2 _ _) ?_))))
          rw [hp]
          exact Says.condT (by simpa using ht) (.now _)
  · exact ⟨(r, [], ()), Says.step (fun n => spec_LearnRule_eq n x p q) (Says.bind hs (Says.condT (by simpa using h0) (.now _))), Says.step (fun n => impl_LearnRule_eq n x p q) (Says.bind hi (Says.condT (by simpa using h0) (.now _))), Nat.zero_le _, Nat.zero_le _⟩

theorem learnRule_law (x : List T_Rule.den) (p q : ByteArray) (g : good (.sl T_Rule) x) (g2 : good .str p) (g3 : good .str q) : Says (fun n => laws_FnExactLearnRule n x p q) true := by
  refine Says.step (fun n => laws_FnExactLearnRule_eq n x p q) (Says.cases (fun _ => .now _) fun hp => Says.cases (fun _ => .now _) fun hq => Says.bind (says_laws_szRuleS x 1048576 g (by omega) (by omega)) (Says.cases (fun _ => .now _) fun h => ?_))
  have hb := szr_pos h
  have hb' : bulk (.sl T_Rule) x ≤ 1048576 := by omega
  have hto := says_laws_toRuleS x hb'
  have hsum : bulk (.sl T_Rule) x = x.length + (x.map (bulk T_Rule)).sum := rfl
  have hl : x.length ≤ 1048576 := by omega
  obtain ⟨r, h1, h2, hrb, hrl⟩ := learn_says x p q hl
  have heq := says_laws_eqRulesResult r (by show 0 + (bulk (.sl T_Rule) r.2.1 + 0) ≤ _; omega)
  have hqx := says_laws_eqRuleS x (by omega)
  have hlen : r.2.1.length ≤ 1048576 := by
    rcases Nat.lt_or_ge x.length 1048576 with h | h
    · omega
    · have h40 : (x.length : Int) > 40 := by omega
      have h1' : Says (fun n => spec_RulesFault n x) 2 := Says.step (fun n => spec_RulesFault_eq n x) (Says.pos h40 (.now _))
      have h2' : Says (fun n => spec_LearnRule n x p q) ((2 : Int), [], ()) := Says.step (fun n => spec_LearnRule_eq n x p q) (Says.bind h1' (Says.condT rfl (.now _)))
      have := h2'.unique h1
      rw [← this]; exact Nat.zero_le _
  have hm := markRules r hlen
  have hh := heldRules r.1 r.2.1.length hlen
  refine Says.bind hto (Says.bind h1 (Says.bind hto (Says.bind h2 (Says.bind heq (Says.condF rfl (Says.bind hto (Says.bind hqx (Says.condF rfl (Says.bind (markRuleS_says x 1 hl (by omega)) ?_)))))))))
  refine Says.condT (by rw [beq_iff_eq, decide_eq_false_iff_not]; simp; omega) (Says.bind heq (Says.condF rfl (Says.bind hm (Says.bind hh (Says.neg (by omega) (Says.condF (by simp) (Says.bind hto (Says.bind h2 (Says.bind heq (Says.condF rfl (Says.bind hh (Says.neg (by omega) (Says.condF (by simp) (.now _))))))))))))))
end Go.Proofs.YtjklgmflillagaaDoor.Ev
