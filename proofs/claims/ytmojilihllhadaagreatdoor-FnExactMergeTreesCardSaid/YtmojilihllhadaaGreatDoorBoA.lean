/- The laws' own functions: measuring, copying, comparing. Written by a program of mine (boiler.py). -/
import Derived.Test.YtmojilihllhadaaGreatDoorEqA
set_option linter.unusedVariables false
set_option linter.unusedSimpArgs false
namespace Go.Proofs.YtmojilihllhadaaGreatDoor.Ev
open Go
theorem says_laws_szObject (x : T_Object.den) (s : Int) (g : good T_Object x) (h0 : 0 ≤ s) (h1 : s ≤ 1048576) : Says (fun n => laws_szObject n x s) (szr (bulk T_Object x) s) := by
  obtain ⟨g0, g1, g2, _⟩ := g
  show Says _ (szr (x.1.size + (0 + (x.2.2.1.size + (0)))) s)
  refine Says.step (fun n => laws_szObject_eq n x s) ?_
  refine Sz.len g0 h0 h1 fun s1 a1 b1 e1 => ?_
  try simp only [e1]
  refine Sz.zero ?_
  refine Sz.len g2 a1 b1 fun s2 a2 b2 e2 => ?_
  try simp only [e2]
  exact Sz.done a2
theorem says_laws_szObjectS : ∀ (l : List T_Object.den) (s : Int), good (.sl T_Object) l → 0 ≤ s → s ≤ 1048576 → Says (fun n => laws_szObjectS n l s) (szr (bulk (.sl T_Object) l) s) := sz_list (t := T_Object) says_laws_szObject laws_szObjectS_eq laws_szObjectS_L5_eq
theorem says_laws_szFile (x : T_Object.den) (s : Int) (g : good T_Object x) (h0 : 0 ≤ s) (h1 : s ≤ 1048576) : Says (fun n => laws_szFile n x s) (szr (bulk T_Object x) s) := by
  obtain ⟨g0, g1, g2, _⟩ := g
  show Says _ (szr (x.1.size + (0 + (x.2.2.1.size + (0)))) s)
  refine Says.step (fun n => laws_szFile_eq n x s) ?_
  refine Sz.len g0 h0 h1 fun s1 a1 b1 e1 => ?_
  try simp only [e1]
  refine Sz.zero ?_
  refine Sz.len g2 a1 b1 fun s2 a2 b2 e2 => ?_
  try simp only [e2]
  exact Sz.done a2
theorem says_laws_szFileS : ∀ (l : List T_Object.den) (s : Int), good (.sl T_Object) l → 0 ≤ s → s ≤ 1048576 → Says (fun n => laws_szFileS n l s) (szr (bulk (.sl T_Object) l) s) := sz_list (t := T_Object) says_laws_szFile laws_szFileS_eq laws_szFileS_L5_eq
theorem says_laws_toObject (x : T_Object.den) (g : bulk T_Object x ≤ 1048576) : Says (fun n => laws_toObject n x) x := by
  have g : x.1.size + (0 + (x.2.2.1.size + (0))) ≤ 1048576 := g
  refine Says.step (fun n => laws_toObject_eq n x) ?_
  exact .now _
theorem says_laws_toObjectS : ∀ l : List T_Object.den, bulk (.sl T_Object) l ≤ 1048576 → Says (fun n => laws_toObjectS n l) l := to_list (t := T_Object) says_laws_toObject laws_toObjectS_eq laws_toObjectS_L3_eq
theorem says_laws_toFile (x : T_Object.den) (g : bulk T_Object x ≤ 1048576) : Says (fun n => laws_toFile n x) x := by
  have g : x.1.size + (0 + (x.2.2.1.size + (0))) ≤ 1048576 := g
  refine Says.step (fun n => laws_toFile_eq n x) ?_
  exact .now _
theorem says_laws_toFileS : ∀ l : List T_Object.den, bulk (.sl T_Object) l ≤ 1048576 → Says (fun n => laws_toFileS n l) l := to_list (t := T_Object) says_laws_toFile laws_toFileS_eq laws_toFileS_L3_eq
theorem says_laws_eqObject (x : T_Object.den) (g : bulk T_Object x ≤ 9223372036854775806) : Says (fun n => laws_eqObject n x x) true := by
  have g : x.1.size + (0 + (x.2.2.1.size + (0))) ≤ 9223372036854775806 := g
  refine Says.step (fun n => laws_eqObject_eq n x x) ?_
  refine Says.condF (by simp) ?_
  refine Says.condF (by simp) ?_
  refine Says.condF (by simp) ?_
  exact .now _
theorem says_laws_eqObjectS : ∀ l : List T_Object.den, bulk (.sl T_Object) l ≤ 9223372036854775806 → Says (fun n => laws_eqObjectS n l l) true := eq_list (t := T_Object) says_laws_eqObject laws_eqObjectS_eq laws_eqObjectS_L4_eq
theorem says_laws_eqEntry (x : T_Entry.den) (g : bulk T_Entry x ≤ 9223372036854775806) : Says (fun n => laws_eqEntry n x x) true := by
  have g : x.1.size + (0 + (0 + (x.2.2.2.1.size + (0)))) ≤ 9223372036854775806 := g
  refine Says.step (fun n => laws_eqEntry_eq n x x) ?_
  refine Says.condF (by simp) ?_
  refine Says.condF (by simp) ?_
  refine Says.condF (by simp) ?_
  refine Says.condF (by simp) ?_
  exact .now _
theorem says_laws_eqEntryS : ∀ l : List T_Entry.den, bulk (.sl T_Entry) l ≤ 9223372036854775806 → Says (fun n => laws_eqEntryS n l l) true := eq_list (t := T_Entry) says_laws_eqEntry laws_eqEntryS_eq laws_eqEntryS_L4_eq
theorem says_laws_eqWork (x : T_Work.den) (g : bulk T_Work x ≤ 9223372036854775806) : Says (fun n => laws_eqWork n x x) true := by
  have g : x.1.size + (x.2.1.size + (0)) ≤ 9223372036854775806 := g
  refine Says.step (fun n => laws_eqWork_eq n x x) ?_
  refine Says.condF (by simp) ?_
  refine Says.condF (by simp) ?_
  exact .now _
theorem says_laws_eqWorkS : ∀ l : List T_Work.den, bulk (.sl T_Work) l ≤ 9223372036854775806 → Says (fun n => laws_eqWorkS n l l) true := eq_list (t := T_Work) says_laws_eqWork laws_eqWorkS_eq laws_eqWorkS_L4_eq
theorem says_laws_eqTreesResult (x : T_TreesResult.den) (g : bulk T_TreesResult x ≤ 9223372036854775806) : Says (fun n => laws_eqTreesResult n x x) true := by
  have g : 0 + (bulk (.sl T_Object) x.2.1 + (bulk (.sl T_Entry) x.2.2.1 + (bulk (.sl T_Work) x.2.2.2.1 + (0)))) ≤ 9223372036854775806 := g
  refine Says.step (fun n => laws_eqTreesResult_eq n x x) ?_
  refine Says.condF (by simp) ?_
  refine Says.bind (says_laws_eqObjectS _ (by omega)) (Says.condF rfl ?_)
  refine Says.bind (says_laws_eqEntryS _ (by omega)) (Says.condF rfl ?_)
  refine Says.bind (says_laws_eqWorkS _ (by omega)) (Says.condF rfl ?_)
  exact .now _
theorem says_laws_eqFile (x : T_Object.den) (g : bulk T_Object x ≤ 9223372036854775806) : Says (fun n => laws_eqFile n x x) true := by
  have g : x.1.size + (0 + (x.2.2.1.size + (0))) ≤ 9223372036854775806 := g
  refine Says.step (fun n => laws_eqFile_eq n x x) ?_
  refine Says.condF (by simp) ?_
  refine Says.condF (by simp) ?_
  refine Says.condF (by simp) ?_
  exact .now _
theorem says_laws_eqFileS : ∀ l : List T_Object.den, bulk (.sl T_Object) l ≤ 9223372036854775806 → Says (fun n => laws_eqFileS n l l) true := eq_list (t := T_Object) says_laws_eqFile laws_eqFileS_eq laws_eqFileS_L4_eq
end Go.Proofs.YtmojilihllhadaaGreatDoor.Ev
