/- The law FnExactParseIndex as the seat states it: for every input it answers true and leaves its arguments as they were. No conditions. Out of what the evaluator says and the pure proof. Written by a program of mine (mkrow2.py). -/
import Derived.Test.YthooeghlplhlnaaGreatDoorRows
import Derived.Test.YthooeghlplhlnaaGreatDoorPfParseIndex
import Derived.Test.YthooeghlplhlnaaGreatDoorCards
import Derived.Test.YthooeghlplhlnaaGreatDoorTie
import Derived.Test.YthooeghlplhlnaaGreatDoorLaidX
import Derived.WalkKit
import Derived.ProofKit
import Derived.OpenShut
import Derived.ShutString
import Derived.ChangeOld
import Derived.Below
import Derived.SizedLaws
import Derived.KernelRfl
import Derived.LaidMore
import Derived.Lay
import Derived.SevenTiedAt
import Derived.Stop.Joined
namespace Go.Proofs.YthooeghlplhlnaaGreatDoor.fnExactParseIndexRow
open Go.RowKit Go.Proofs.YthooeghlplhlnaaGreatDoor.Ev
open Go.ChangeShapes Go.WideShapes Go.ChangeAt
open Go.ChangeMaps (open_string shut_string)
set_option linter.unusedVariables false
theorem own : ownKnob Tryz.prog.godebug = none := by kernel_rfl
theorem laidOut : laidOutB Tryz.prog = true := by kernel_rfl
set_option maxRecDepth 100000 in
theorem lifted (os : Os) (started : os.Started) (H : Type) (enc : TypeId × Value → H) :
    ReturnsInHanded {} Tryz.checked os 3 .any (fun w args => (Rows.fnExactParseIndexSpec.pre enc Tryz.prog Tryz.f3 Rows.fnExactParseIndexRow.domain false w args ∧ laidMetH Tryz.prog Rows.fnExactParseIndexRow.laid w) ∧ sizedMet enc Tryz.prog Tryz.f3 (OpenSpec.ofChange Rows.fnExactParseIndexSpec) false w args)
      (Rows.fnExactParseIndexSpec.post enc Tryz.prog Tryz.f3 false true false false) := by
  refine returnsInHanded_of_change_and (C := Tryz.checked) (X := fun w _ => laidMetH Tryz.prog Rows.fnExactParseIndexRow.laid w) (fun _ _ _ hh h => h.of_heap hh) own started (by kernel_rfl) Tryz.func3
    (ChangeSpec.witness_shaped (enc := enc) (C := Tryz.checked) (os := os) (X := fun w _ => laidMetH Tryz.prog Rows.fnExactParseIndexRow.laid w) false (World.laidAll Tryz.prog os Rows.fnExactParseIndexRow.laid) #[.string ByteArray.empty] 8 (World.laidAll_os _ _ _)
      (World.shaped_of_ZipB (by kernel_rfl) (by kernel_rfl)) (by kernel_rfl) (by kernel_rfl) (by kernel_rfl)
      (by rw [MakeChecks.laidMetH_plain _ _ _ (by kernel_rfl)]; exact laidMet_laidAll _ (by kernel_rfl) (by kernel_rfl))) ?_
  intro W base args ds gs before hval0 hW hcnd _ hL hsz0
  have hval : ∀ (j : Nat) t v, Tryz.f3.params[j]? = some t → args[j]? = some v → Value.okWide Tryz.prog W .any base t v := hval0
  have hW' := hW
  obtain ⟨p, q, hA0, hV, rfl, hfz, hnd⟩ := hW
  have hA : DataW.TrodAll enc Tryz.prog W 0 (fun _ => true) true Tryz.f3.params.toList args.toList ds p := hA0
  rw [Tryz.params3] at hA hval
  obtain ⟨v0, vs0, d0, ds0, p0, q0, hargs, rfl, rfl, h0, r0⟩ := trodAll_cons hA
  obtain ⟨rfl, rfl, rfl⟩ := trodAll_nil r0
  obtain rfl : args = #[v0] := by cases args; simp_all
  obtain ⟨rfl, rfl⟩ := trodVars_none hV
  have lt0 : ∀ x ∈ p0, x.block < W.heap.size := by obtain ⟨m, hm⟩ := h0; exact DataW.trod_lt m _ _ _ hm
  obtain ⟨x0, g0, e0⟩ := arg_ok (P := Tryz.prog) (τ := .str) (by kernel_rfl) (hval 0 9 v0 rfl rfl) h0
  clear hA0 hval0 hsz0
  obtain ⟨k, hk⟩ := parseIndex_law x0 g0
  have hLM : laidMet Tryz.prog Rows.fnExactParseIndexRow.laid W := by
    rw [← MakeChecks.laidMetH_plain _ _ _ (by kernel_rfl)]; exact hL
  have hG : GlobOk env (Old W) (Lt W) W := by
    refine ⟨fun _ _ h => (by cases h), fun g cs h => ?_⟩
    simp only [show env.tab = tabs from rfl, tabs] at h
    split at h
    · rename_i hb
      obtain rfl := Nat.eq_of_beq_eq_true hb
      cases h
      exact old_tab (laid_tab (t := 179) (n := 20) (e := 158) 2 (by kernel_rfl) (by kernel_rfl) (by kernel_rfl) (by kernel_rfl) (by kernel_rfl) (by kernel_rfl) hLM rfl)
    split at h
    · rename_i hb
      obtain rfl := Nat.eq_of_beq_eq_true hb
      cases h
      exact old_tab (laid_tab (t := 188) (n := 64) (e := 5) 1 (by kernel_rfl) (by kernel_rfl) (by kernel_rfl) (by kernel_rfl) (by kernel_rfl) (by kernel_rfl) hLM rfl)
    cases h
  have h : ev env k 3 (.call [toAV .str x0] []) = some (true : Bool) := hk k (Nat.le_refl _)
  refine (row_calls (W := W) (vs := #[v0]) (says k) (show env.fi 3 = some fi3 by kernel_rfl) h (.cons e0 .nil) hG).mono fun e W' ⟨v, he, hret⟩ => ?_
  obtain ⟨rfl, bel⟩ := ret_true (own := fi3.own) (F := Lt W) (W := W) (W' := W') (v := v) hret
  subst he
  exact ⟨_, rfl, _, _, _, [], _, [], hW', trodAll_mk1 (shut_bool Tryz.underlying4 _), (trodAll_cons_mk (Below.trod laidOut (by kernel_rfl) (of_decide_eq_true (by kernel_rfl)) h0 bel lt0) trodAll_mk0), rfl, bel.frame _, fun h => by cases h⟩
theorem over : Rows.fnExactParseIndexRow.holds Tryz.pinned (OpenSpec.ofChange Rows.fnExactParseIndexSpec) :=
  OpenClaim.holds_of_wide 3 Tryz.f3 rfl rfl rfl rfl rfl rfl rfl ⟨rfl, rfl, rfl, rfl, rfl⟩ rfl rfl rfl rfl rfl (by kernel_rfl) Tryz.func3 (by kernel_rfl)
    (of_decide_eq_true (by kernel_rfl)) (by unfold Func.isWrapper; first | (rw [if_pos (by decide +kernel)]; kernel_rfl) | (rw [if_neg (by decide +kernel)]; exact ⟨rfl, rfl⟩))
    (fun os started H enc _ => lifted os started H enc)
theorem proved : Rows.FnExactParseIndexSaid := over
theorem carded : Rows.FnExactParseIndexCardSaid :=
  Claim7.holds_tied_plain_at .later [] [.data, .data, .data, .data, .pinned] true (true, "a28e41d2057e5011f6d56d5d579356035f2c5cf980a96ae5961b7ed7da027c00") false proved (fun _ h => by cases h) (by kernel_rfl) (fun _ h => by cases h) fnExactParseIndex_row_tie rfl ⟨rfl, rfl⟩ (by kernel_rfl) rfl
    (fun f fn hf hfn => by
      obtain rfl : f = 3 := Option.some.inj ((show Tryz.prog.funcNamed "loop.example/g00172/laws.FnExactParseIndex" = some 3 by kernel_rfl).symm.trans hf) |>.symm
      obtain rfl : fn = Tryz.f3 := (Option.some.inj (Tryz.func3.symm.trans hfn)).symm
      exact ⟨by kernel_rfl, fun j t ht => by
        rw [Tryz.params3] at ht
        have hm : t ∈ [9] := by simpa using Array.mem_of_getElem? ht
        have hall : ([9].all fun u => !Tryz.prog.wantsStandIn u) = true := by kernel_rfl
        exact (show Tryz.prog.wantsStandIn t = false by simpa using List.all_eq_true.1 hall t hm)⟩)
    (by kernel_rfl)
#print axioms carded
end Go.Proofs.YthooeghlplhlnaaGreatDoor.fnExactParseIndexRow
namespace Go.Proofs.YthooeghlplhlnaaGreatDoor
/-- The row, under a short name, for the claim. -/
theorem fnExactParseIndex_holds : Rows.FnExactParseIndexCardSaid := fnExactParseIndexRow.carded
end Go.Proofs.YthooeghlplhlnaaGreatDoor
