/- The laws' own functions: measuring, copying, comparing. Written by a program of mine (boiler.py). -/
import Derived.Test.YtjklgmflillagaaDoorEqA
set_option linter.unusedVariables false
set_option linter.unusedSimpArgs false
namespace Go.Proofs.YtjklgmflillagaaDoor.Ev
open Go
theorem says_laws_szRule (x : T_Rule.den) (s : Int) (g : good T_Rule x) (h0 : 0 ≤ s) (h1 : s ≤ 1048576) : Says (fun n => laws_szRule n x s) (szr (bulk T_Rule x) s) := by
  obtain ⟨g0, g1, _⟩ := g
  show Says _ (szr (x.1.size + (x.2.1.size + (0))) s)
  refine Says.step (fun n => laws_szRule_eq n x s) ?_
  refine Sz.len g0 h0 h1 fun s1 a1 b1 e1 => ?_
  try simp only [e1]
  refine Sz.len g1 a1 b1 fun s2 a2 b2 e2 => ?_
  try simp only [e2]
  exact Sz.done a2
theorem says_laws_szRuleS : ∀ (l : List T_Rule.den) (s : Int), good (.sl T_Rule) l → 0 ≤ s → s ≤ 1048576 → Says (fun n => laws_szRuleS n l s) (szr (bulk (.sl T_Rule) l) s) := sz_list (t := T_Rule) says_laws_szRule laws_szRuleS_eq laws_szRuleS_L5_eq
theorem says_laws_toRule (x : T_Rule.den) (g : bulk T_Rule x ≤ 1048576) : Says (fun n => laws_toRule n x) x := by
  have g : x.1.size + (x.2.1.size + (0)) ≤ 1048576 := g
  refine Says.step (fun n => laws_toRule_eq n x) ?_
  exact .now _
theorem says_laws_toRuleS : ∀ l : List T_Rule.den, bulk (.sl T_Rule) l ≤ 1048576 → Says (fun n => laws_toRuleS n l) l := to_list (t := T_Rule) says_laws_toRule laws_toRuleS_eq laws_toRuleS_L3_eq
theorem says_laws_eqRule (x : T_Rule.den) (g : bulk T_Rule x ≤ 9223372036854775806) : Says (fun n => laws_eqRule n x x) true := by
  have g : x.1.size + (x.2.1.size + (0)) ≤ 9223372036854775806 := g
  refine Says.step (fun n => laws_eqRule_eq n x x) ?_
  refine Says.condF (by simp) ?_
  refine Says.condF (by simp) ?_
  exact .now _
theorem says_laws_eqRuleS : ∀ l : List T_Rule.den, bulk (.sl T_Rule) l ≤ 9223372036854775806 → Says (fun n => laws_eqRuleS n l l) true := eq_list (t := T_Rule) says_laws_eqRule laws_eqRuleS_eq laws_eqRuleS_L4_eq
theorem says_laws_eqTextResult (x : T_TextResult.den) (g : bulk T_TextResult x ≤ 9223372036854775806) : Says (fun n => laws_eqTextResult n x x) true := by
  have g : 0 + (x.2.1.size + (0)) ≤ 9223372036854775806 := g
  refine Says.step (fun n => laws_eqTextResult_eq n x x) ?_
  refine Says.condF (by simp) ?_
  refine Says.condF (by simp) ?_
  exact .now _
theorem says_laws_eqRulesResult (x : T_RulesResult.den) (g : bulk T_RulesResult x ≤ 9223372036854775806) : Says (fun n => laws_eqRulesResult n x x) true := by
  have g : 0 + (bulk (.sl T_Rule) x.2.1 + (0)) ≤ 9223372036854775806 := g
  refine Says.step (fun n => laws_eqRulesResult_eq n x x) ?_
  refine Says.condF (by simp) ?_
  refine Says.bind (says_laws_eqRuleS _ (by omega)) (Says.condF rfl ?_)
  exact .now _
end Go.Proofs.YtjklgmflillagaaDoor.Ev
