/- A rule is forgotten. -/
import Derived.Test.YtjklgmflillagaaDoorPfMark
set_option linter.unusedVariables false
set_option linter.unusedSimpArgs false
namespace Go.Proofs.YtjklgmflillagaaDoor.Ev
open Go

/-- without the rule at 'i' -/
def without {β : Type} (l : List β) (i : Nat) : List β := l.take i ++ l.drop (i + 1)
theorem without_len {β : Type} {l : List β} {i : Nat} (h : i < l.length) : (without l i).length = l.length - 1 := by simp [without]; omega
theorem without_bulk (l : List T_Rule.den) {i : Nat} (h : i < l.length) : bulk (.sl T_Rule) (without l i) ≤ bulk (.sl T_Rule) l := by
  have e : ∀ m : List T_Rule.den, bulk (.sl T_Rule) m = m.length + (m.map (bulk T_Rule)).sum := fun _ => rfl
  rw [e, e, without_len h]
  have : l = l.take i ++ l[i] :: l.drop (i + 1) := by simp
  have h2 : (l.map (bulk T_Rule)).sum = ((l.take i).map (bulk T_Rule)).sum + (bulk T_Rule l[i] + ((l.drop (i + 1)).map (bulk T_Rule)).sum) := by
    conv => lhs; rw [this]
    rw [List.map_append, List.sum_append, List.map_cons, List.sum_cons]
  rw [h2]
  unfold without
  rw [List.map_append, List.sum_append]
  omega
theorem splice_take {β : Type} {l d : List β} {i : Nat} (h : i + d.length ≤ l.length) : (splice l i d).take (i + d.length) = l.take i ++ d := by
  unfold splice
  rw [List.take_append_of_le_length (by simp; omega)]
  rw [List.take_of_length_le (by simp; omega)]
theorem splice_lenF {β : Type} {l d : List β} {i : Nat} (h : i + d.length ≤ l.length) : (splice l i d).length = l.length := by
  unfold splice; simp; omega

theorem clone_says (l : List T_Rule.den) (h : l.length ≤ 1048576) : Says (fun n => slices_Clone___impl_Rule_impl_Rule_ n l) l := by
  refine Says.step (fun n => slices_Clone___impl_Rule_impl_Rule__eq n l) (Says.cases (fun h0 => ?_) fun h0 => ?_)
  · have : l = [] := List.length_eq_zero_iff.1 h0
    subst this
    exact Says.join (.now _) (Says.pos (by omega) (.now _))
  · exact Says.pos (by simp; omega) (.now _)

theorem delete_says (l : List T_Rule.den) (h : l.length ≤ 1048576) {i : Nat} (hi : i < l.length) : Says (fun n => slices_Delete___impl_Rule_impl_Rule_ n l (i : Int) ((i + 1 : Nat) : Int)) (without l i) := by
  have hd : List.take (l.length - (i + 1)) (List.drop (i + 1) l) = List.drop (i + 1) l := List.take_of_length_le (by simp)
  have hk : i + (List.drop (i + 1) l).length ≤ l.length := by simp; omega
  refine Says.step (fun n => slices_Delete___impl_Rule_impl_Rule__eq n l i (i + 1 : Nat)) ?_
  simp only [Int.toNat_natCast, Nat.sub_zero, Nat.zero_add, hd, List.drop_zero]
  refine Says.pos (by omega) (Says.condF (by simp; omega) (Says.pos (by omega) (Says.pos (by omega) (Says.pos hk (Says.pos (by rw [splice_lenF hk]; omega) (Says.pos (by omega) ?_))))))
  rw [show List.take (i + (List.drop (i + 1) l).length) (splice (splice l i (List.drop (i + 1) l)) (i + (List.drop (i + 1) l).length) (List.replicate (l.length - (i + (List.drop (i + 1) l).length)) ((noS, noS, ()) : T_Rule.den))) = without l i by
    have h2 := splice_lenF hk
    conv => lhs; unfold splice
    rw [List.append_assoc, List.take_append_of_le_length (by rw [List.length_take]; show _ ≤ min _ (splice l i (List.drop (i + 1) l)).length; omega), List.take_take, Nat.min_self]
    exact splice_take hk]
  exact .now _

theorem markRules (r : T_RulesResult.den) (h : r.2.1.length ≤ 1048576) : Says (fun n => laws_markRulesResult n r.2.1 r.1 (1 : Int)) (((1 + 2 * r.2.1.length : Nat) : Int), marks (t := T_Rule) 2 mkRule 1 r.2.1.length) :=
  Says.step (fun n => laws_markRulesResult_eq n r.2.1 r.1 1) (Says.bind (markRuleS_says r.2.1 1 h (by omega)) (.now _))
theorem heldRules (c : Int) (N : Nat) (h : N ≤ 1048576) : Says (fun n => laws_heldRulesResult n (c, marks (t := T_Rule) 2 mkRule 1 N, ()) (1 : Int)) ((1 + 2 * N : Nat) : Int) :=
  Says.step (fun n => laws_heldRulesResult_eq n _ 1) (Says.bind (heldRuleS_says 1 N h (by omega)) (Says.neg (by omega) (.now _)))

theorem forget_says (x : List T_Rule.den) (p : ByteArray) (hl : x.length ≤ 1048576) : ∃ r : T_RulesResult.den, Says (fun n => spec_ForgetRule n x p) r ∧ Says (fun n => impl_ForgetRule n x p) r ∧ bulk (.sl T_Rule) r.2.1 ≤ bulk (.sl T_Rule) x ∧ r.2.1.length ≤ x.length := by
  obtain ⟨r, hs, hi⟩ := rulesFault_says x hl
  by_cases h0 : r = 0
  · subst h0
    have hsrt := sorted_of_fault x hl hs
    obtain ⟨i, ha, hr⟩ := ruleAt_says x p hsrt hl
    have hf := l13Find_says x p hsrt hl ha
    cases hat : isAt x p i with
    | true =>
      have hlt := isAt_lt hat
      rw [hat] at hf hr
      refine ⟨(0, without x i, ()), ?_, ?_, without_bulk x hlt, by rw [without_len hlt]; omega⟩
      · refine Says.step (fun n => spec_ForgetRule_eq n x p) (Says.bind hs (Says.condF rfl (Says.bind hf (Says.neg (by simp) ?_))))
        simp only [if_true, wrap_succ (show i < 4611686018427387904 by omega), Int.toNat_natCast, List.take_length, List.drop_zero, List.nil_append]
        exact Says.pos (by omega) (Says.pos (by simp; omega) (Says.pos (by omega) (Says.pos (by simp; omega) (.now _))))
      · refine Says.step (fun n => impl_ForgetRule_eq n x p) (Says.bind hi (Says.condF rfl (Says.bind hr (Says.condF rfl (Says.bind (clone_says x hl) ?_)))))
        simp only [wrap_succ (show i < 4611686018427387904 by omega)]
        exact Says.bind (delete_says x hl hlt) (.now _)
    | false =>
      rw [hat] at hf hr
      refine ⟨(4, [], ()), ?_, ?_, Nat.zero_le _, Nat.zero_le _⟩
      · exact Says.step (fun n => spec_ForgetRule_eq n x p) (Says.bind hs (Says.condF rfl (Says.bind hf (Says.pos (by simp) (.now _)))))
      · exact Says.step (fun n => impl_ForgetRule_eq n x p) (Says.bind hi (Says.condF rfl (Says.bind hr (Says.condT rfl (.now _)))))
  · exact ⟨(r, [], ()), Says.step (fun n => spec_ForgetRule_eq n x p) (Says.bind hs (Says.condT (by simpa using h0) (.now _))), Says.step (fun n => impl_ForgetRule_eq n x p) (Says.bind hi (Says.condT (by simpa using h0) (.now _))), Nat.zero_le _, Nat.zero_le _⟩

theorem forgetRule_law (x : List T_Rule.den) (p : ByteArray) (g : good (.sl T_Rule) x) (g2 : good .str p) : Says (fun n => laws_FnExactForgetRule n x p) true := by
  refine Says.step (fun n => laws_FnExactForgetRule_eq n x p) (Says.cases (fun _ => .now _) fun _ => Says.bind (says_laws_szRuleS x 1048576 g (by omega) (by omega)) (Says.cases (fun _ => .now _) fun h => ?_))
  have hb := szr_pos h
  have hb' : bulk (.sl T_Rule) x ≤ 1048576 := by omega
  have hto := says_laws_toRuleS x hb'
  have hsum : bulk (.sl T_Rule) x = x.length + (x.map (bulk T_Rule)).sum := rfl
  have hl : x.length ≤ 1048576 := by omega
  obtain ⟨r, h1, h2, hrb, hrl⟩ := forget_says x p hl
  have heq := says_laws_eqRulesResult r (by show 0 + (bulk (.sl T_Rule) r.2.1 + 0) ≤ _; omega)
  have hqx := says_laws_eqRuleS x (by omega)
  have hm := markRules r (by omega)
  have hh := heldRules r.1 r.2.1.length (by omega)
  refine Says.bind hto (Says.bind h1 (Says.bind hto (Says.bind h2 (Says.bind heq (Says.condF rfl (Says.bind hto (Says.bind hqx (Says.condF rfl (Says.bind (markRuleS_says x 1 hl (by omega)) ?_)))))))))
  refine Says.condT (by rw [beq_iff_eq, decide_eq_false_iff_not]; simp; omega) (Says.bind heq (Says.condF rfl (Says.bind hm (Says.bind hh (Says.neg (by omega) (Says.condF (by simp) (Says.bind hto (Says.bind h2 (Says.bind heq (Says.condF rfl (Says.bind hh (Says.neg (by omega) (Says.condF (by simp) (.now _))))))))))))))
end Go.Proofs.YtjklgmflillagaaDoor.Ev
