/- The laws' own functions: measuring, copying, comparing. Written by a program of mine (boiler.py). -/
import Derived.Test.YthooeghlplhlnaaDoorEqA
set_option linter.unusedVariables false
set_option linter.unusedSimpArgs false
namespace Go.Proofs.YthooeghlplhlnaaDoor.Ev
open Go
theorem says_laws_eqTextResult (x : T_TextResult.den) (g : bulk T_TextResult x ≤ 9223372036854775806) : Says (fun n => laws_eqTextResult n x x) true := by
  have g : 0 + (x.2.1.size + (0)) ≤ 9223372036854775806 := g
  refine Says.step (fun n => laws_eqTextResult_eq n x x) ?_
  refine Says.condF (by simp) ?_
  refine Says.condF (by simp) ?_
  exact .now _
end Go.Proofs.YthooeghlplhlnaaDoor.Ev
