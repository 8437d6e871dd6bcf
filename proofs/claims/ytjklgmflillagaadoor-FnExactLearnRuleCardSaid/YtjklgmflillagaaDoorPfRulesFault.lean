/- The law FnExactRulesFault: the pure part. -/
import Derived.Test.YtjklgmflillagaaDoorPfLines
set_option linter.unusedVariables false
set_option linter.unusedSimpArgs false
namespace Go.Proofs.YtjklgmflillagaaDoor.Ev
open Go

def tf (s : ByteArray) : Int := if (s.size : Int) > 2000 then 2 else if ((linesL s).length : Int) > 100 then 2 else 0
theorem spec_tf (s : ByteArray) : Says (fun n => spec_TextFault n s) (tf s) := by
  refine Says.step (fun n => spec_TextFault_eq n s) ?_
  unfold tf
  by_cases h : (s.size : Int) > 2000
  · rw [if_pos h]
    exact Says.condF (by rw [decide_eq_true h]; rfl) (.now _)
  · rw [if_neg h]
    refine Says.condT (by rw [decide_eq_false h]; rfl) (Says.bind (says_spec_split s (by omega)) ?_)
    by_cases h2 : ((linesL s).length : Int) > 100
    · rw [if_pos h2]; exact Says.pos h2 (.now _)
    · rw [if_neg h2]; exact Says.neg h2 (.now _)
theorem impl_tf (s : ByteArray) : Says (fun n => impl_TextFault n s) (tf s) := by
  refine Says.step (fun n => impl_TextFault_eq n s) ?_
  unfold tf
  by_cases h : (s.size : Int) > 2000
  · rw [if_pos h]
    exact Says.condF (by rw [decide_eq_true h]; rfl) (.now _)
  · rw [if_neg h]
    refine Says.condT (by rw [decide_eq_false h]; rfl) (Says.bind (says_linesOf s (by omega)) ?_)
    by_cases h2 : ((linesL s).length : Int) > 100
    · rw [if_pos h2]; exact Says.pos h2 (.now _)
    · rw [if_neg h2]; exact Says.neg h2 (.now _)

def pre (s : ByteArray) : Bool := decide ((s.size : Int) ≥ 1) && decide ((s.size : Int) ≤ 8000)
theorem spec_pre (s : ByteArray) : Says (fun n => spec_l13Pre n s) (pre s) := by
  refine Says.step (fun n => spec_l13Pre_eq n s) ?_
  unfold pre
  cases h : decide ((s.size : Int) ≥ 1) with
  | true => exact Says.condT rfl (.now _)
  | false => exact Says.condF rfl (.now _)
theorem empty_iff (s : ByteArray) : (!(s.toList == noS.toList)) = decide ((s.size : Int) ≥ 1) := by
  have h : s.toList = s.data.toList := Go.Lib.toList_data s
  have h2 := Go.Lib.size_eq s
  rw [noS_toList, h]
  cases hd : s.data.toList with
  | nil => rw [hd] at h2; simp [h2]
  | cons a b => rw [hd] at h2; simp [h2]; omega
theorem impl_pre (s : ByteArray) : Says (fun n => impl_isPre n s) (pre s) := by
  refine Says.step (fun n => impl_isPre_eq n s) ?_
  rw [empty_iff]
  unfold pre
  cases h : decide ((s.size : Int) ≥ 1) with
  | true => exact Says.condT rfl (.now _)
  | false => exact Says.condF rfl (.now _)

theorem codeIf_says (c : Bool) (x : Int) : Says (fun n => impl_codeIf n c x) (bif c then x else 0) := by
  refine Says.step (fun n => impl_codeIf_eq n c x) ?_
  cases c <;> exact .now _
theorem firstCode2 (a b : Int) : Says (fun n => impl_firstCode n (fillElems [(0, a), (1, b)] (List.replicate 2 0))) (if a ≠ 0 then a else b) := by
  refine Says.step (fun n => impl_firstCode_eq n _) (Says.step (fun n => impl_firstCode_L2_eq n [a, b] 2 0) (Says.pos (by omega) (Says.pos (by simp) ?_)))
  by_cases h : a ≠ 0
  · rw [if_pos h]
    refine Says.condT ?_ (.now _)
    have : nth (.int .i64) [a, b] (0 : Int).toNat = a := rfl
    rw [this]; simpa using h
  · rw [if_neg h]
    refine Says.condF ?_ ?_
    · have : nth (.int .i64) [a, b] (0 : Int).toNat = a := rfl
      rw [this]; simpa using h
    · have hw : IntKind.i64.wrap ((0 : Int) + 1) = 1 := by decide
      rw [hw]
      have hn : nth (.int .i64) [a, b] (1 : Int).toNat = b := rfl
      refine Says.step (fun n => impl_firstCode_L2_eq n [a, b] 2 1) (Says.pos (by decide) (Says.pos (by simp) ?_))
      rw [hn]
      by_cases h2 : b = 0
      · subst h2
        exact Says.condF rfl (Says.step (fun n => impl_firstCode_L2_eq n [a, 0] 2 _) (Says.neg (by decide) (.now _)))
      · exact Says.condT (by simpa using h2) (.now _)

theorem rules_loop (l : List T_Rule.den) (hl : l.length ≤ 1048576) : ∀ (k i : Nat), i + k = l.length →
    ∃ r, Says (fun n => spec_RulesFault_L4 n l (i : Int)) r ∧ Says (fun n => impl_RulesFault_L4 n l l (l.length : Int) (i : Int)) r
  | 0, i, h => ⟨0, Says.step (fun n => spec_RulesFault_L4_eq n l i) (Says.neg (by omega) (.now _)), Says.step (fun n => impl_RulesFault_L4_eq n l l l.length i) (Says.neg (by omega) (.now _))⟩
  | k + 1, i, h => by
    obtain ⟨r, h1, h2⟩ := rules_loop l hl k (i + 1) (by omega)
    have hw : IntKind.i64.wrap ((i : Int) + 1) = ((i + 1 : Nat) : Int) := wrap_succ (by omega)
    cases hp : pre (nth T_Rule l (i : Int).toNat).1 with
    | false =>
      refine ⟨1, ?_, ?_⟩
      · exact Says.step (fun n => spec_RulesFault_L4_eq n l i) (Says.pos (by omega) (Says.pos (by omega) (Says.bind (spec_pre _) (Says.condF (by rw [hp]; rfl) (.now _)))))
      · refine Says.step (fun n => impl_RulesFault_L4_eq n l l l.length i) (Says.pos (by omega) (Says.pos (by omega) (Says.bind (impl_pre _) (Says.condF (by rw [hp]; rfl) (Says.bind (codeIf_says true 1) (Says.bind (impl_tf _) (Says.bind (firstCode2 1 _) (Says.condT rfl (.now _)))))))))
    | true =>
      by_cases hi : (i : Int) > 0
      · have hw2 : IntKind.i64.wrap ((i : Int) - 1) = ((i - 1 : Nat) : Int) := wrap_pred (by omega) (by omega)
        cases hle : (Op.bytesLess (ByteArray.toList (nth T_Rule l (i : Int).toNat).1) (ByteArray.toList (nth T_Rule l (IntKind.i64.wrap ((i : Int) - 1)).toNat).1) || ByteArray.toList (nth T_Rule l (i : Int).toNat).1 == ByteArray.toList (nth T_Rule l (IntKind.i64.wrap ((i : Int) - 1)).toNat).1) with
        | true =>
          refine ⟨1, ?_, ?_⟩
          · exact Says.step (fun n => spec_RulesFault_L4_eq n l i) (Says.pos (by omega) (Says.pos (by omega) (Says.bind (spec_pre _) (Says.condT (by rw [hp]; rfl) (Says.condT (by rw [decide_eq_true hi]; rfl) (Says.pos (by omega) (Says.pos (by omega) (Says.condT hle (.now _)))))))))
          · refine Says.step (fun n => impl_RulesFault_L4_eq n l l l.length i) (Says.pos (by omega) (Says.pos (by omega) (Says.bind (impl_pre _) (Says.condT (by rw [hp]; rfl) (Says.condT (by rw [decide_eq_true hi]; rfl) (Says.pos (by omega) (Says.bind (codeIf_says _ 1) (Says.bind (impl_tf _) (Says.bind (firstCode2 _ _) ?_)))))))))
            rw [hle]
            exact Says.condT rfl (.now _)
        | false =>
          by_cases ht : tf (nth T_Rule l (i : Int).toNat).2.1 = 0
          · refine ⟨r, ?_, ?_⟩
            · refine Says.step (fun n => spec_RulesFault_L4_eq n l i) (Says.pos (by omega) (Says.pos (by omega) (Says.bind (spec_pre _) (Says.condT (by rw [hp]; rfl) (Says.condT (by rw [decide_eq_true hi]; rfl) (Says.pos (by omega) (Says.pos (by omega) (Says.condF hle (Says.pos (by omega) (Says.bind (spec_tf _) (Says.condF (by rw [ht]; rfl) ?_)))))))))))
              rw [hw]; exact h1
            · refine Says.step (fun n => impl_RulesFault_L4_eq n l l l.length i) (Says.pos (by omega) (Says.pos (by omega) (Says.bind (impl_pre _) (Says.condT (by rw [hp]; rfl) (Says.condT (by rw [decide_eq_true hi]; rfl) (Says.pos (by omega) (Says.bind (codeIf_says _ 1) (Says.bind (impl_tf _) (Says.bind (firstCode2 _ _) ?_)))))))))
              rw [hle, ht, hw]
              exact Says.condF rfl h2
          · refine ⟨tf (nth T_Rule l (i : Int).toNat).2.1, ?_, ?_⟩
            · exact Says.step (fun n => spec_RulesFault_L4_eq n l i) (Says.pos (by omega) (Says.pos (by omega) (Says.bind (spec_pre _) (Says.condT (by rw [hp]; rfl) (Says.condT (by rw [decide_eq_true hi]; rfl) (Says.pos (by omega) (Says.pos (by omega) (Says.condF hle (Says.pos (by omega) (Says.bind (spec_tf _) (Says.condT (by simpa using ht) (.now _))))))))))))
            · refine Says.step (fun n => impl_RulesFault_L4_eq n l l l.length i) (Says.pos (by omega) (Says.pos (by omega) (Says.bind (impl_pre _) (Says.condT (by rw [hp]; rfl) (Says.condT (by rw [decide_eq_true hi]; rfl) (Says.pos (by omega) (Says.bind (codeIf_says _ 1) (Says.bind (impl_tf _) (Says.bind (firstCode2 _ _) ?_)))))))))
              rw [hle]
              exact Says.condT (by simpa using ht) (.now _)
      · by_cases ht : tf (nth T_Rule l (i : Int).toNat).2.1 = 0
        · refine ⟨r, ?_, ?_⟩
          · refine Says.step (fun n => spec_RulesFault_L4_eq n l i) (Says.pos (by omega) (Says.pos (by omega) (Says.bind (spec_pre _) (Says.condT (by rw [hp]; rfl) (Says.condF (by rw [decide_eq_false hi]; rfl) (Says.pos (by omega) (Says.bind (spec_tf _) (Says.condF (by rw [ht]; rfl) ?_))))))))
            rw [hw]; exact h1
          · refine Says.step (fun n => impl_RulesFault_L4_eq n l l l.length i) (Says.pos (by omega) (Says.pos (by omega) (Says.bind (impl_pre _) (Says.condT (by rw [hp]; rfl) (Says.condF (by rw [decide_eq_false hi]; rfl) (Says.bind (codeIf_says false 1) (Says.bind (impl_tf _) (Says.bind (firstCode2 0 _) ?_))))))))
            rw [ht, hw]
            exact Says.condF rfl h2
        · refine ⟨tf (nth T_Rule l (i : Int).toNat).2.1, ?_, ?_⟩
          · exact Says.step (fun n => spec_RulesFault_L4_eq n l i) (Says.pos (by omega) (Says.pos (by omega) (Says.bind (spec_pre _) (Says.condT (by rw [hp]; rfl) (Says.condF (by rw [decide_eq_false hi]; rfl) (Says.pos (by omega) (Says.bind (spec_tf _) (Says.condT (by simpa using ht) (.now _)))))))))
          · refine Says.step (fun n => impl_RulesFault_L4_eq n l l l.length i) (Says.pos (by omega) (Says.pos (by omega) (Says.bind (impl_pre _) (Says.condT (by rw [hp]; rfl) (Says.condF (by rw [decide_eq_false hi]; rfl) (Says.bind (codeIf_says false 1) (Says.bind (impl_tf _) (Says.bind (firstCode2 0 _) ?_))))))))
            exact Says.condT (by simpa using ht) (.now _)

theorem rulesFault_says (l : List T_Rule.den) (hl : l.length ≤ 1048576) : ∃ r, Says (fun n => spec_RulesFault n l) r ∧ Says (fun n => impl_RulesFault n l) r := by
  by_cases h : (l.length : Int) > 40
  · exact ⟨2, Says.step (fun n => spec_RulesFault_eq n l) (Says.pos h (.now _)), Says.step (fun n => impl_RulesFault_eq n l) (Says.pos h (.now _))⟩
  · obtain ⟨r, h1, h2⟩ := rules_loop l hl l.length 0 (by omega)
    exact ⟨r, Says.step (fun n => spec_RulesFault_eq n l) (Says.neg h h1), Says.step (fun n => impl_RulesFault_eq n l) (Says.neg h h2)⟩

theorem rulesFault_law (x : List T_Rule.den) (g : good (.sl T_Rule) x) : Says (fun n => laws_FnExactRulesFault n x) true := by
  refine Says.step (fun n => laws_FnExactRulesFault_eq n x) (Says.bind (says_laws_szRuleS x 1048576 g (by omega) (by omega)) (Says.cases (fun _ => .now _) fun h => ?_))
  have hb := szr_pos h
  have hb' : bulk (.sl T_Rule) x ≤ 1048576 := by omega
  have hto := says_laws_toRuleS x hb'
  have hl : x.length ≤ 1048576 := by
    have : bulk (.sl T_Rule) x = x.length + (x.map (bulk T_Rule)).sum := rfl
    omega
  obtain ⟨r, hs, hi⟩ := rulesFault_says x hl
  exact Says.bind hto (Says.bind hs (Says.bind hto (Says.bind hi (Says.condF (by simp) (Says.bind hto (Says.bind (says_laws_eqRuleS x (by omega)) (Says.condF rfl (.now _))))))))
end Go.Proofs.YtjklgmflillagaaDoor.Ev
