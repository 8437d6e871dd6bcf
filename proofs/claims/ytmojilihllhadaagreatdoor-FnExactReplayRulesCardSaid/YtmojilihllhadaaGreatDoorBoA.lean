/- The laws' own functions: measuring, copying, comparing. Written by a program of mine (boiler.py). -/
import Derived.Test.YtmojilihllhadaaGreatDoorEqA
set_option linter.unusedVariables false
set_option linter.unusedSimpArgs false
namespace Go.Proofs.YtmojilihllhadaaGreatDoor.Ev
open Go
theorem says_laws_szObject (x : T_Object.den) (s : Int) (g : good T_Object x) (h0 : 0 ≤ s) (h1 : s ≤ 1048576) : Says (fun n => laws_szObject n x s) (szr (bulk T_Object x) s) := by
  obtain ⟨g0, g1, g2, _⟩ := g
  show Says _ (szr (x.1.size + (0 + (x.2.2.1.size + (0)))) s)
  refine Says.step (fun n => laws_szObject_eq n x s) ?_
  refine Sz.len g0 h0 h1 fun s1 a1 b1 e1 => ?_
  try simp only [e1]
  refine Sz.zero ?_
  refine Sz.len g2 a1 b1 fun s2 a2 b2 e2 => ?_
  try simp only [e2]
  exact Sz.done a2
theorem says_laws_szObjectS : ∀ (l : List T_Object.den) (s : Int), good (.sl T_Object) l → 0 ≤ s → s ≤ 1048576 → Says (fun n => laws_szObjectS n l s) (szr (bulk (.sl T_Object) l) s) := sz_list (t := T_Object) says_laws_szObject laws_szObjectS_eq laws_szObjectS_L5_eq
theorem says_laws_szEntry (x : T_Entry.den) (s : Int) (g : good T_Entry x) (h0 : 0 ≤ s) (h1 : s ≤ 1048576) : Says (fun n => laws_szEntry n x s) (szr (bulk T_Entry x) s) := by
  obtain ⟨g0, g1, g2, g3, _⟩ := g
  show Says _ (szr (x.1.size + (0 + (0 + (x.2.2.2.1.size + (0))))) s)
  refine Says.step (fun n => laws_szEntry_eq n x s) ?_
  refine Sz.len g0 h0 h1 fun s1 a1 b1 e1 => ?_
  try simp only [e1]
  refine Sz.zero ?_
  refine Sz.zero ?_
  refine Sz.len g3 a1 b1 fun s2 a2 b2 e2 => ?_
  try simp only [e2]
  exact Sz.done a2
theorem says_laws_szEntryS : ∀ (l : List T_Entry.den) (s : Int), good (.sl T_Entry) l → 0 ≤ s → s ≤ 1048576 → Says (fun n => laws_szEntryS n l s) (szr (bulk (.sl T_Entry) l) s) := sz_list (t := T_Entry) says_laws_szEntry laws_szEntryS_eq laws_szEntryS_L5_eq
theorem says_laws_szRule (x : T_Work.den) (s : Int) (g : good T_Work x) (h0 : 0 ≤ s) (h1 : s ≤ 1048576) : Says (fun n => laws_szRule n x s) (szr (bulk T_Work x) s) := by
  obtain ⟨g0, g1, _⟩ := g
  show Says _ (szr (x.1.size + (x.2.1.size + (0))) s)
  refine Says.step (fun n => laws_szRule_eq n x s) ?_
  refine Sz.len g0 h0 h1 fun s1 a1 b1 e1 => ?_
  try simp only [e1]
  refine Sz.len g1 a1 b1 fun s2 a2 b2 e2 => ?_
  try simp only [e2]
  exact Sz.done a2
theorem says_laws_szRuleS : ∀ (l : List T_Work.den) (s : Int), good (.sl T_Work) l → 0 ≤ s → s ≤ 1048576 → Says (fun n => laws_szRuleS n l s) (szr (bulk (.sl T_Work) l) s) := sz_list (t := T_Work) says_laws_szRule laws_szRuleS_eq laws_szRuleS_L5_eq
theorem says_laws_toObject (x : T_Object.den) (g : bulk T_Object x ≤ 1048576) : Says (fun n => laws_toObject n x) x := by
  have g : x.1.size + (0 + (x.2.2.1.size + (0))) ≤ 1048576 := g
  refine Says.step (fun n => laws_toObject_eq n x) ?_
  exact .now _
theorem says_laws_toObjectS : ∀ l : List T_Object.den, bulk (.sl T_Object) l ≤ 1048576 → Says (fun n => laws_toObjectS n l) l := to_list (t := T_Object) says_laws_toObject laws_toObjectS_eq laws_toObjectS_L3_eq
theorem says_laws_toEntry (x : T_Entry.den) (g : bulk T_Entry x ≤ 1048576) : Says (fun n => laws_toEntry n x) x := by
  have g : x.1.size + (0 + (0 + (x.2.2.2.1.size + (0)))) ≤ 1048576 := g
  refine Says.step (fun n => laws_toEntry_eq n x) ?_
  exact .now _
theorem says_laws_toEntryS : ∀ l : List T_Entry.den, bulk (.sl T_Entry) l ≤ 1048576 → Says (fun n => laws_toEntryS n l) l := to_list (t := T_Entry) says_laws_toEntry laws_toEntryS_eq laws_toEntryS_L3_eq
theorem says_laws_toRule (x : T_Work.den) (g : bulk T_Work x ≤ 1048576) : Says (fun n => laws_toRule n x) x := by
  have g : x.1.size + (x.2.1.size + (0)) ≤ 1048576 := g
  refine Says.step (fun n => laws_toRule_eq n x) ?_
  exact .now _
theorem says_laws_toRuleS : ∀ l : List T_Work.den, bulk (.sl T_Work) l ≤ 1048576 → Says (fun n => laws_toRuleS n l) l := to_list (t := T_Work) says_laws_toRule laws_toRuleS_eq laws_toRuleS_L3_eq
theorem says_laws_eqObject (x : T_Object.den) (g : bulk T_Object x ≤ 9223372036854775806) : Says (fun n => laws_eqObject n x x) true := by
  have g : x.1.size + (0 + (x.2.2.1.size + (0))) ≤ 9223372036854775806 := g
  refine Says.step (fun n => laws_eqObject_eq n x x) ?_
  refine Says.condF (by simp) ?_
  refine Says.condF (by simp) ?_
  refine Says.condF (by simp) ?_
  exact .now _
theorem says_laws_eqObjectS : ∀ l : List T_Object.den, bulk (.sl T_Object) l ≤ 9223372036854775806 → Says (fun n => laws_eqObjectS n l l) true := eq_list (t := T_Object) says_laws_eqObject laws_eqObjectS_eq laws_eqObjectS_L4_eq
theorem says_laws_eqEntry (x : T_Entry.den) (g : bulk T_Entry x ≤ 9223372036854775806) : Says (fun n => laws_eqEntry n x x) true := by
  have g : x.1.size + (0 + (0 + (x.2.2.2.1.size + (0)))) ≤ 9223372036854775806 := g
  refine Says.step (fun n => laws_eqEntry_eq n x x) ?_
  refine Says.condF (by simp) ?_
  refine Says.condF (by simp) ?_
  refine Says.condF (by simp) ?_
  refine Says.condF (by simp) ?_
  exact .now _
theorem says_laws_eqEntryS : ∀ l : List T_Entry.den, bulk (.sl T_Entry) l ≤ 9223372036854775806 → Says (fun n => laws_eqEntryS n l l) true := eq_list (t := T_Entry) says_laws_eqEntry laws_eqEntryS_eq laws_eqEntryS_L4_eq
theorem says_laws_eqReplayResult (x : T_ReplayResult.den) (g : bulk T_ReplayResult x ≤ 9223372036854775806) : Says (fun n => laws_eqReplayResult n x x) true := by
  have g : 0 + (0 + (bulk (.sl T_Object) x.2.2.1 + (bulk (.sl T_Entry) x.2.2.2.1 + (0)))) ≤ 9223372036854775806 := g
  refine Says.step (fun n => laws_eqReplayResult_eq n x x) ?_
  refine Says.condF (by simp) ?_
  refine Says.condF (by simp) ?_
  refine Says.bind (says_laws_eqObjectS _ (by omega)) (Says.condF rfl ?_)
  refine Says.bind (says_laws_eqEntryS _ (by omega)) (Says.condF rfl ?_)
  exact .now _
theorem says_laws_eqRule (x : T_Work.den) (g : bulk T_Work x ≤ 9223372036854775806) : Says (fun n => laws_eqRule n x x) true := by
  have g : x.1.size + (x.2.1.size + (0)) ≤ 9223372036854775806 := g
  refine Says.step (fun n => laws_eqRule_eq n x x) ?_
  refine Says.condF (by simp) ?_
  refine Says.condF (by simp) ?_
  exact .now _
theorem says_laws_eqRuleS : ∀ l : List T_Work.den, bulk (.sl T_Work) l ≤ 9223372036854775806 → Says (fun n => laws_eqRuleS n l l) true := eq_list (t := T_Work) says_laws_eqRule laws_eqRuleS_eq laws_eqRuleS_L4_eq
end Go.Proofs.YtmojilihllhadaaGreatDoor.Ev
