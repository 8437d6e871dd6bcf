/- The law FnExactNewRepo: the pure part. -/
import Derived.Test.YtjklgmflillagaaBoA
set_option linter.unusedVariables false
set_option linter.unusedSimpArgs false
namespace Go.Proofs.Ytjklgmflillagaa.Ev
open Go

theorem wrap_succ {i : Nat} (h : i < 4611686018427387904) : IntKind.i64.wrap ((i : Int) + 1) = ((i + 1 : Nat) : Int) := by rw [wrap_id (by omega) (by omega)]; omega

def nb (c : Int) : Bool := (decide (c ≥ 97) && decide (c ≤ 122)) || (decide (c ≥ 48) && decide (c ≤ 57)) || c == 46 || c == 95 || c == 45

theorem says_nameByte (c : Int) : Says (fun n => spec_l6NameByte n c) (nb c) := by
  refine Says.step (fun n => spec_l6NameByte_eq n c) (Says.eq (.now _) fun _ => ?_)
  unfold nb
  generalize decide (c ≥ 97) = a1
  generalize decide (c ≤ 122) = a2
  generalize decide (c ≥ 48) = a3
  generalize decide (c ≤ 57) = a4
  generalize (c == 46) = a5
  generalize (c == 95) = a6
  generalize (c == 45) = a7
  cases a1 <;> cases a2 <;> cases a3 <;> cases a4 <;> cases a5 <;> cases a6 <;> cases a7 <;> rfl

theorem implL4 (n : Nat) (s : ByteArray) (a i : Int) : impl_NameFault_L4 (n + 1) s a i = cond (decide (i < a)) (cond (decide (0 ≤ i ∧ i < (s.size : Int))) (cond (nb (byteAt s i.toNat)) (impl_NameFault_L4 n s a (IntKind.i64.wrap (i + 1))) (some 1)) none) (some 0) := by
  rw [impl_NameFault_L4_eq]
  congr 1
  congr 1
  generalize impl_NameFault_L4 n s a (IntKind.i64.wrap (i + 1)) = Y
  generalize byteAt s i.toNat = c
  unfold nb
  generalize decide (c ≥ 97) = a1
  generalize decide (c ≤ 122) = a2
  generalize decide (c ≥ 48) = a3
  generalize decide (c ≤ 57) = a4
  generalize (c == 46) = a5
  generalize (c == 95) = a6
  generalize (c == 45) = a7
  cases a1 <;> cases a2 <;> cases a3 <;> cases a4 <;> cases a5 <;> cases a6 <;> cases a7 <;> rfl

theorem nameLoop (s : ByteArray) (hs : s.size ≤ 1048576) : ∀ (k i : Nat), i + k = s.size → ∃ r, Says (fun n => spec_NameFault_L4 n s (i : Int)) r ∧ Says (fun n => impl_NameFault_L4 n s (s.size : Int) (i : Int)) r
  | 0, i, h => ⟨0, Says.step (fun n => spec_NameFault_L4_eq n s i) (Says.neg (by omega) (.now _)), Says.step (fun n => implL4 n s s.size i) (Says.neg (by omega) (.now _))⟩
  | k + 1, i, h => by
    cases hc : nb (byteAt s (i : Int).toNat) with
    | true =>
      obtain ⟨r, h1, h2⟩ := nameLoop s hs k (i + 1) (by omega)
      refine ⟨r, Says.step (fun n => spec_NameFault_L4_eq n s i) (Says.pos (by omega) (Says.pos (by omega) (Says.bind (says_nameByte _) (Says.condF (by rw [hc]; rfl) ?_)))), Says.step (fun n => implL4 n s s.size i) (Says.pos (by omega) (Says.pos (by omega) (Says.condT hc ?_)))⟩
      · rw [wrap_succ (by omega)]; exact h1
      · rw [wrap_succ (by omega)]; exact h2
    | false =>
      exact ⟨1, Says.step (fun n => spec_NameFault_L4_eq n s i) (Says.pos (by omega) (Says.pos (by omega) (Says.bind (says_nameByte _) (Says.condT (by rw [hc]; rfl) (.now _))))), Says.step (fun n => implL4 n s s.size i) (Says.pos (by omega) (Says.pos (by omega) (Says.condF hc (.now _))))⟩

theorem nameFault (s : ByteArray) (hs : s.size ≤ 1048576) : ∃ r, Says (fun n => spec_NameFault n s) r ∧ Says (fun n => impl_NameFault n s) r := by
  have key : ∃ r, Says (fun n => cond (decide ((s.size : Int) < 1) == false) (cond (decide ((s.size : Int) > 12) == false) (cond ((s.toList == (ByteArray.mk #[46]).toList) == false) (cond (s.toList == (ByteArray.mk #[46, 46]).toList) (some (1 : Int)) (spec_NameFault_L4 n s 0)) (some 1)) (some 1)) (some 1)) r ∧
      Says (fun n => cond (decide ((s.size : Int) < 1) == false) (cond (decide ((s.size : Int) > 12) == false) (cond ((s.toList == (ByteArray.mk #[46]).toList) == false) (cond (s.toList == (ByteArray.mk #[46, 46]).toList) (some (1 : Int)) (impl_NameFault_L4 n s s.size 0)) (some 1)) (some 1)) (some 1)) r := by
    obtain ⟨r, h1, h2⟩ := nameLoop s hs s.size 0 (by omega)
    generalize (decide ((s.size : Int) < 1) == false) = a1
    generalize (decide ((s.size : Int) > 12) == false) = a2
    generalize ((s.toList == (ByteArray.mk #[46]).toList) == false) = a3
    generalize (s.toList == (ByteArray.mk #[46, 46]).toList) = a4
    cases a1 <;> cases a2 <;> cases a3 <;> cases a4 <;> first | exact ⟨1, .now _, .now _⟩ | exact ⟨r, h1, h2⟩
  obtain ⟨r, h1, h2⟩ := key
  exact ⟨r, Says.step (fun n => spec_NameFault_eq n s) h1, Says.step (fun n => impl_NameFault_eq n s) h2⟩

theorem held0 (q : T_Repo.den) (h1 : q.1 = []) (h2 : q.2.1 = []) (h3 : q.2.2.2.2.1 = []) (h4 : q.2.2.2.2.2.1 = []) (h5 : q.2.2.2.2.2.2.1 = []) : Says (fun n => laws_heldRepo n q 1) 1 := by
  refine Says.step (fun n => laws_heldRepo_eq n q 1) ?_
  rw [h1, h2, h3, h4, h5]
  refine Says.bind (Says.step (fun n => laws_heldObjectS_eq n [] 1) (Says.step (fun n => laws_heldObjectS_L2_eq n [] 1 0) (Says.neg (by simp) (.now _)))) (Says.neg (by omega) ?_)
  refine Says.bind (Says.step (fun n => laws_heldBranchS_eq n [] 1) (Says.step (fun n => laws_heldBranchS_L2_eq n [] 1 0) (Says.neg (by simp) (.now _)))) (Says.neg (by omega) ?_)
  refine Says.bind (Says.step (fun n => laws_heldEntryS_eq n [] 1) (Says.step (fun n => laws_heldEntryS_L2_eq n [] 1 0) (Says.neg (by simp) (.now _)))) (Says.neg (by omega) ?_)
  refine Says.bind (Says.step (fun n => laws_heldWorkS_eq n [] 1) (Says.step (fun n => laws_heldWorkS_L2_eq n [] 1 0) (Says.neg (by simp) (.now _)))) (Says.neg (by omega) ?_)
  exact Says.bind (Says.step (fun n => laws_heldRuleS_eq n [] 1) (Says.step (fun n => laws_heldRuleS_L2_eq n [] 1 0) (Says.neg (by simp) (.now _)))) (Says.neg (by omega) (.now _))

theorem mark0 (a : Int) (b c d : ByteArray) (e : Int) : Says (fun n => laws_markRepoResult n [] [] [] [] [] a b c d e 1) (1, [], [], [], [], []) := by
  refine Says.step (fun n => laws_markRepoResult_eq n [] [] [] [] [] a b c d e 1) (Says.bind (a := (1, [], [], [], [], [])) (Says.step (fun n => laws_markRepo_eq n [] [] [] [] [] c d e 1) ?_) (.now _))
  refine Says.bind (a := (1, [])) (Says.step (fun n => laws_markObjectS_eq n [] 1) (Says.step (fun n => laws_markObjectS_L2_eq n _ 1 0 []) (Says.neg (by simp) (.now _)))) ?_
  refine Says.bind (a := (1, [])) (Says.step (fun n => laws_markBranchS_eq n [] 1) (Says.step (fun n => laws_markBranchS_L2_eq n _ 1 0 []) (Says.neg (by simp) (.now _)))) ?_
  refine Says.bind (a := (1, [])) (Says.step (fun n => laws_markEntryS_eq n [] 1) (Says.step (fun n => laws_markEntryS_L2_eq n _ 1 0 []) (Says.neg (by simp) (.now _)))) ?_
  refine Says.bind (a := (1, [])) (Says.step (fun n => laws_markWorkS_eq n [] 1) (Says.step (fun n => laws_markWorkS_L2_eq n _ 1 0 []) (Says.neg (by simp) (.now _)))) ?_
  exact Says.bind (a := (1, [])) (Says.step (fun n => laws_markRuleS_eq n [] 1) (Says.step (fun n => laws_markRuleS_L2_eq n _ 1 0 []) (Says.neg (by simp) (.now _)))) (.now _)

theorem newRepo_law (x : ByteArray) (g : good .str x) : Says (fun n => laws_FnExactNewRepo n x) true := by
  refine Says.step (fun n => laws_FnExactNewRepo_eq n x) (Says.cases (fun _ => .now _) fun h => ?_)
  obtain ⟨r, h1, h2⟩ := nameFault x (by omega)
  obtain ⟨c, q, hs, hi, hq⟩ : ∃ (c : Int) (q : ByteArray), Says (fun n => spec_NewRepo n x) (c, noS, ([], [], q, noS, [], [], [], (0 : Int), ()), ()) ∧ Says (fun n => impl_NewRepo n x) (c, noS, ([], [], q, noS, [], [], [], (0 : Int), ()), ()) ∧ q.size ≤ 1048576 := by
    by_cases h0 : r = 0
    · refine ⟨0, x, Says.step (fun n => spec_NewRepo_eq n x) (Says.bind h1 (Says.condF (by simp [h0]) (.now _))), Says.step (fun n => impl_NewRepo_eq n x) (Says.bind h2 (Says.condF (by simp [h0]) (.now _))), by omega⟩
    · refine ⟨r, noS, Says.step (fun n => spec_NewRepo_eq n x) (Says.bind h1 (Says.condT (by simp [h0]) (Says.bind (Says.step (fun n => spec_l14Bad_eq n r) (.now _)) (.now _)))), Says.step (fun n => impl_NewRepo_eq n x) (Says.bind h2 (Says.condT (by simp [h0]) (.now _))), by decide⟩
  have heq := says_laws_eqRepoResult (c, noS, ([], [], q, noS, [], [], [], (0 : Int), ()), ()) (by
    show 0 + (0 + ((0 + 0) + ((0 + 0) + (q.size + (0 + ((0 + 0) + ((0 + 0) + ((0 + 0) + (0 + 0)))))))  + 0)) ≤ _
    omega)
  refine Says.bind hs (Says.bind hi (Says.bind heq (Says.condF rfl (Says.bind (mark0 _ _ _ _ _) (Says.bind (a := 1) ?_ (Says.neg (by omega) (Says.condF (by simp) (Says.bind hi (Says.bind heq (Says.condF rfl (Says.bind (a := 1) ?_ (Says.neg (by omega) (Says.condF (by simp) (.now _))))))))))))))
  · exact Says.step (fun n => laws_heldRepoResult_eq n _ 1) (Says.bind (held0 _ rfl rfl rfl rfl rfl) (Says.neg (by omega) (.now _)))
  · exact Says.step (fun n => laws_heldRepoResult_eq n _ 1) (Says.bind (held0 _ rfl rfl rfl rfl rfl) (Says.neg (by omega) (.now _)))
end Go.Proofs.Ytjklgmflillagaa.Ev
