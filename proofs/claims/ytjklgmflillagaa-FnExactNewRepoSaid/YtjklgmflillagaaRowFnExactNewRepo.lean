/- The law FnExactNewRepo as the seat states it: for every input it answers true and leaves its arguments as they were. No conditions. Out of what the evaluator says and the pure proof. Written by a program of mine (mkrow2.py). -/
import Derived.Test.YtjklgmflillagaaRows
import Derived.Test.YtjklgmflillagaaPfNewRepo
import Derived.WalkKit
import Derived.ProofKit
import Derived.OpenShut
import Derived.ShutString
import Derived.ChangeOld
import Derived.Below
import Derived.SizedLaws
import Derived.KernelRfl
namespace Go.Proofs.Ytjklgmflillagaa.fnExactNewRepoRow
open Go.RowKit Go.Proofs.Ytjklgmflillagaa.Ev
open Go.ChangeShapes Go.WideShapes Go.ChangeAt
open Go.ChangeMaps (open_string shut_string)
set_option linter.unusedVariables false
theorem own : ownKnob Try.prog.godebug = none := by kernel_rfl
theorem laidOut : laidOutB Try.prog = true := by kernel_rfl
set_option maxRecDepth 100000 in
theorem lifted (os : Os) (started : os.Started) (H : Type) (enc : TypeId × Value → H) :
    ReturnsInHanded {} Try.checked os 6 .any (Rows.fnExactNewRepoSpec.pre6 enc Try.prog Try.f6 Rows.fnExactNewRepoRow.domain false) (Rows.fnExactNewRepoSpec.post enc Try.prog Try.f6 false true false false) := by
  refine returnsInHanded_of_change_sized (C := Try.checked) own started (by kernel_rfl) Try.func6
    (ChangeSpec.witness6 (enc := enc) (C := Try.checked) false ⟨#[], #[.string ByteArray.empty], []⟩ 8 (by kernel_rfl) (by kernel_rfl) (by kernel_rfl) (by kernel_rfl)) ?_
  intro W base args ds gs before hval0 hW hcnd hsz0 _
  have hval : ∀ (j : Nat) t v, Try.f6.params[j]? = some t → args[j]? = some v → Value.okWide Try.prog W .any base t v := hval0
  have hW' := hW
  obtain ⟨p, q, hA0, hV, rfl, hfz, hnd⟩ := hW
  have hA : DataW.TrodAll enc Try.prog W 0 (fun _ => true) true Try.f6.params.toList args.toList ds p := hA0
  rw [Try.params6] at hA hval
  obtain ⟨v0, vs0, d0, ds0, p0, q0, hargs, rfl, rfl, h0, r0⟩ := trodAll_cons hA
  obtain ⟨rfl, rfl, rfl⟩ := trodAll_nil r0
  obtain rfl : args = #[v0] := by cases args; simp_all
  obtain ⟨rfl, rfl⟩ := trodVars_none hV
  have lt0 : ∀ x ∈ p0, x.block < W.heap.size := by obtain ⟨m, hm⟩ := h0; exact DataW.trod_lt m _ _ _ hm
  obtain ⟨x0, g0, e0⟩ := arg_ok (P := Try.prog) (τ := .str) (by kernel_rfl) (hval 0 9 v0 rfl rfl) h0
  clear hA0 hval0 hsz0
  obtain ⟨k, hk⟩ := newRepo_law x0 g0
  have h : ev env k 6 (.call [toAV .str x0] []) = some (true : Bool) := hk k (Nat.le_refl _)
  refine (row_calls (W := W) (vs := #[v0]) (says k) (show env.fi 6 = some fi6 by kernel_rfl) h (.cons e0 .nil) (fun _ _ h => by cases h)).mono fun e W' ⟨v, he, hret⟩ => ?_
  obtain ⟨rfl, bel⟩ := ret_true (own := fi6.own) (F := Lt W) (W := W) (W' := W') (v := v) hret
  subst he
  exact ⟨_, rfl, _, _, _, [], _, [], hW', trodAll_mk1 (shut_bool Try.underlying4 _), (trodAll_cons_mk (Below.trod laidOut (by kernel_rfl) (of_decide_eq_true (by kernel_rfl)) h0 bel lt0) trodAll_mk0), rfl, bel.frame _, fun h => by cases h⟩
theorem over : Rows.fnExactNewRepoRow.holds Try.pinned (OpenSpec.ofChange Rows.fnExactNewRepoSpec) :=
  OpenClaim.holds_of_wide 6 Try.f6 rfl rfl rfl rfl rfl rfl rfl ⟨rfl, rfl, rfl, rfl, rfl⟩ rfl rfl rfl rfl rfl (by kernel_rfl) Try.func6 (by kernel_rfl)
    (of_decide_eq_true (by kernel_rfl)) (by unfold Func.isWrapper; first | (rw [if_pos (by decide +kernel)]; kernel_rfl) | (rw [if_neg (by decide +kernel)]; exact ⟨rfl, rfl⟩))
    (fun os started H enc _ => lifted os started H enc)
theorem proved : Rows.FnExactNewRepoSaid := over
#print axioms proved
end Go.Proofs.Ytjklgmflillagaa.fnExactNewRepoRow
namespace Go.Proofs.Ytjklgmflillagaa
/-- The row, under a short name, for the claim. -/
theorem fnExactNewRepo_holds : Rows.FnExactNewRepoSaid := fnExactNewRepoRow.proved
end Go.Proofs.Ytjklgmflillagaa
