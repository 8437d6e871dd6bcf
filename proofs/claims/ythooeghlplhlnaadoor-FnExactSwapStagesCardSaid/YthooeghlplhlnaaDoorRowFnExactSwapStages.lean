/- The law FnExactSwapStages as the seat states it: for every input it answers true and leaves its arguments as they were. No conditions. Out of what the evaluator says and the pure proof. Written by a program of mine (mkrow2.py). -/
import Derived.Test.YthooeghlplhlnaaDoorRows
import Derived.Test.YthooeghlplhlnaaDoorPfSwapStages
import Derived.Test.YthooeghlplhlnaaDoorCards
import Derived.Test.YthooeghlplhlnaaDoorTie
import Derived.WalkKit
import Derived.ProofKit
import Derived.OpenShut
import Derived.ShutString
import Derived.ChangeOld
import Derived.Below
import Derived.SizedLaws
import Derived.KernelRfl
import Derived.LaidMore
import Derived.Lay
import Derived.SevenTiedAt
import Derived.Stop.Joined
namespace Go.Proofs.YthooeghlplhlnaaDoor.fnExactSwapStagesRow
open Go.RowKit Go.Proofs.YthooeghlplhlnaaDoor.Ev
open Go.ChangeShapes Go.WideShapes Go.ChangeAt
open Go.ChangeMaps (open_string shut_string)
set_option linter.unusedVariables false
theorem own : ownKnob Tryd.prog.godebug = none := by kernel_rfl
theorem laidOut : laidOutB Tryd.prog = true := by kernel_rfl
set_option maxRecDepth 100000 in
theorem lifted (os : Os) (started : os.Started) (H : Type) (enc : TypeId × Value → H) :
    ReturnsInHanded {} Tryd.checked os 7 .any (fun w args => (Rows.fnExactSwapStagesSpec.pre enc Tryd.prog Tryd.f7 Rows.fnExactSwapStagesRow.domain false w args ∧ laidMetH Tryd.prog Rows.fnExactSwapStagesRow.laid w) ∧ sizedMet enc Tryd.prog Tryd.f7 (OpenSpec.ofChange Rows.fnExactSwapStagesSpec) false w args)
      (Rows.fnExactSwapStagesSpec.post enc Tryd.prog Tryd.f7 false true false false) := by
  refine returnsInHanded_of_change_and (C := Tryd.checked) (X := fun w _ => laidMetH Tryd.prog Rows.fnExactSwapStagesRow.laid w) (fun _ _ _ hh h => h.of_heap hh) own started (by kernel_rfl) Tryd.func7
    (ChangeSpec.witness_shaped (enc := enc) (C := Tryd.checked) (os := os) (X := fun w _ => laidMetH Tryd.prog Rows.fnExactSwapStagesRow.laid w) false (World.laidAll Tryd.prog os Rows.fnExactSwapStagesRow.laid) #[.slice none 0 0] 8 (World.laidAll_os _ _ _)
      (World.shaped_of_ZipB (by kernel_rfl) (by kernel_rfl)) (by kernel_rfl) (by kernel_rfl) (by kernel_rfl)
      (by rw [MakeChecks.laidMetH_plain _ _ _ (by kernel_rfl)]; exact laidMet_laidAll _ (by kernel_rfl) (by kernel_rfl))) ?_
  intro W base args ds gs before hval0 hW hcnd _ hL hsz0
  have hval : ∀ (j : Nat) t v, Tryd.f7.params[j]? = some t → args[j]? = some v → Value.okWide Tryd.prog W .any base t v := hval0
  have hW' := hW
  obtain ⟨p, q, hA0, hV, rfl, hfz, hnd⟩ := hW
  have hA : DataW.TrodAll enc Tryd.prog W 0 (fun _ => true) true Tryd.f7.params.toList args.toList ds p := hA0
  rw [Tryd.params7] at hA hval
  obtain ⟨v0, vs0, d0, ds0, p0, q0, hargs, rfl, rfl, h0, r0⟩ := trodAll_cons hA
  obtain ⟨rfl, rfl, rfl⟩ := trodAll_nil r0
  obtain rfl : args = #[v0] := by cases args; simp_all
  obtain ⟨rfl, rfl⟩ := trodVars_none hV
  have lt0 : ∀ x ∈ p0, x.block < W.heap.size := by obtain ⟨m, hm⟩ := h0; exact DataW.trod_lt m _ _ _ hm
  obtain ⟨x0, g0, e0⟩ := arg_ok (P := Tryd.prog) (τ := (.sl T_Entry)) (by kernel_rfl) (hval 0 57 v0 rfl rfl) h0
  clear hA0 hval0 hsz0
  obtain ⟨k, hk⟩ := swapStages_law x0 g0
  have hG : GlobOk env (Old W) (Lt W) W := ⟨fun _ _ h => (by cases h), fun _ _ h => (by cases h)⟩
  have h : ev env k 7 (.call [toAV (.sl T_Entry) x0] []) = some (true : Bool) := hk k (Nat.le_refl _)
  refine (row_calls (W := W) (vs := #[v0]) (says k) (show env.fi 7 = some fi7 by kernel_rfl) h (.cons e0 .nil) hG).mono fun e W' ⟨v, he, hret⟩ => ?_
  obtain ⟨rfl, bel⟩ := ret_true (own := fi7.own) (F := Lt W) (W := W) (W' := W') (v := v) hret
  subst he
  exact ⟨_, rfl, _, _, _, [], _, [], hW', trodAll_mk1 (shut_bool Tryd.underlying4 _), (trodAll_cons_mk (Below.trod laidOut (by kernel_rfl) (of_decide_eq_true (by kernel_rfl)) h0 bel lt0) trodAll_mk0), rfl, bel.frame _, fun h => by cases h⟩
theorem over : Rows.fnExactSwapStagesRow.holds Tryd.pinned (OpenSpec.ofChange Rows.fnExactSwapStagesSpec) :=
  OpenClaim.holds_of_wide 7 Tryd.f7 rfl rfl rfl rfl rfl rfl rfl ⟨rfl, rfl, rfl, rfl, rfl⟩ rfl rfl rfl rfl rfl (by kernel_rfl) Tryd.func7 (by kernel_rfl)
    (of_decide_eq_true (by kernel_rfl)) (by unfold Func.isWrapper; first | (rw [if_pos (by decide +kernel)]; kernel_rfl) | (rw [if_neg (by decide +kernel)]; exact ⟨rfl, rfl⟩))
    (fun os started H enc _ => lifted os started H enc)
theorem proved : Rows.FnExactSwapStagesSaid := over
theorem carded : Rows.FnExactSwapStagesCardSaid :=
  Claim7.holds_tied_plain_at .later [] [.data, .pinned] true (true, "429ce0c421cbe5389e7e972e72956a104d5c71799ba2cdb319502197c3ab68bc") false proved (fun _ h => by cases h) (by kernel_rfl) (fun _ h => by cases h) fnExactSwapStages_row_tie rfl ⟨rfl, rfl⟩ (by kernel_rfl) rfl
    (fun f fn hf hfn => by
      obtain rfl : f = 7 := Option.some.inj ((show Tryd.prog.funcNamed "loop.example/g00172/laws.FnExactSwapStages" = some 7 by kernel_rfl).symm.trans hf) |>.symm
      obtain rfl : fn = Tryd.f7 := (Option.some.inj (Tryd.func7.symm.trans hfn)).symm
      exact ⟨by kernel_rfl, fun j t ht => by
        rw [Tryd.params7] at ht
        have hm : t ∈ [57] := by simpa using Array.mem_of_getElem? ht
        have hall : ([57].all fun u => !Tryd.prog.wantsStandIn u) = true := by kernel_rfl
        exact (show Tryd.prog.wantsStandIn t = false by simpa using List.all_eq_true.1 hall t hm)⟩)
    (by kernel_rfl)
#print axioms carded
end Go.Proofs.YthooeghlplhlnaaDoor.fnExactSwapStagesRow
namespace Go.Proofs.YthooeghlplhlnaaDoor
/-- The row, under a short name, for the claim. -/
theorem fnExactSwapStages_holds : Rows.FnExactSwapStagesCardSaid := fnExactSwapStagesRow.carded
end Go.Proofs.YthooeghlplhlnaaDoor
