/- The law FnExactMergeKind as the seat states it: for every input it answers true and leaves its arguments as they were. No conditions. Out of the printed walk and the pure statement. Written by a program of mine (mkrow.py). -/
import Derived.Test.YtjklgmflillagaaRows
import Derived.Test.YtjklgmflillagaaQFnExactMergeKind
import Derived.Test.YtjklgmflillagaaPfFnExactMergeKind
import Derived.WalkKit
import Derived.ProofKit
import Derived.OpenShut
import Derived.ShutString
import Derived.ChangeOld
import Derived.Below
import Derived.SizedLaws
namespace Go.Proofs.Ytjklgmflillagaa.fnExactMergeKindRow
open Go.RowKit Go.Proofs.YtjklgmflillagaaW.PrintWords Go.Proofs.YtjklgmflillagaaW.PrintLast Go.Proofs.Ytjklgmflillagaa.Pr Go.Proofs.Ytjklgmflillagaa.Op
open Go.ChangeShapes Go.WideShapes Go.ChangeAt
open Go.ChangeMaps (open_string shut_string)
set_option linter.unusedVariables false
theorem own : ownKnob Try.prog.godebug = none := by kernel_rfl
theorem laidOut : laidOutB Try.prog = true := by kernel_rfl
set_option maxRecDepth 100000 in
theorem lifted (os : Os) (started : os.Started) (H : Type) (enc : TypeId × Value → H) :
    ReturnsInHanded {} Try.checked os 3 .any (Rows.fnExactMergeKindSpec.pre6 enc Try.prog Try.f3 Rows.fnExactMergeKindRow.domain false) (Rows.fnExactMergeKindSpec.post enc Try.prog Try.f3 false true false false) := by
  refine returnsInHanded_of_change_sized (C := Try.checked) own started (by kernel_rfl) Try.func3
    (ChangeSpec.witness6 (enc := enc) (C := Try.checked) false ⟨#[], #[.agg #[.string ByteArray.empty, .int .i64 0, .string ByteArray.empty], .agg #[.string ByteArray.empty, .int .i64 0, .string ByteArray.empty], .agg #[.string ByteArray.empty, .int .i64 0, .string ByteArray.empty]], []⟩ 8 (by kernel_rfl) (by kernel_rfl) (by kernel_rfl) (by kernel_rfl)) ?_
  intro W base args ds gs before hval0 hW hcnd hsz0 _
  have hval : ∀ (j : Nat) t v, Try.f3.params[j]? = some t → args[j]? = some v → Value.okWide Try.prog W .any base t v := hval0
  have hW' := hW
  obtain ⟨p, q, hA0, hV, rfl, hfz, hnd⟩ := hW
  have hA : DataW.TrodAll enc Try.prog W 0 (fun _ => true) true Try.f3.params.toList args.toList ds p := hA0
  rw [Try.params3] at hA hval
  obtain ⟨v0, vs0, d0, ds0, p0, q0, hargs, rfl, rfl, h0, r0⟩ := trodAll_cons hA
  obtain ⟨v1, vs1, d1, ds1, p1, q1, rfl, rfl, rfl, h1, r1⟩ := trodAll_cons r0
  obtain ⟨v2, vs2, d2, ds2, p2, q2, rfl, rfl, rfl, h2, r2⟩ := trodAll_cons r1
  obtain ⟨rfl, rfl, rfl⟩ := trodAll_nil r2
  obtain rfl : args = #[v0, v1, v2] := by cases args; simp_all
  obtain ⟨rfl, rfl⟩ := trodVars_none hV
  have k0 := h0
  have lt0 : ∀ x ∈ p0, x.block < W.heap.size := by obtain ⟨m, hm⟩ := k0; exact DataW.trod_lt m _ _ _ hm
  obtain ⟨cs0, x0, rfl, g0, hk0⟩ := arg_struct (opens_struct Try.underlying23 (by kernel_rfl) (opensF_cons (opens_string Try.underlying9) rfl (by kernel_rfl) (opensF_cons (opens_int Try.underlying2) rfl (by kernel_rfl) (opensF_last (opens_string Try.underlying9) rfl (by kernel_rfl))))) Try.underlying23 (hval 0 23 v0 rfl rfl) h0
  obtain ⟨_, _, e0_0, rfl, ⟨_, _, e0_1, rfl, rfl⟩⟩ := hk0
  obtain rfl : cs0 = #[.string x0.1, .int .i64 x0.2.1, .string x0.2.2] := by apply Array.toList_inj.1; rw [e0_0, e0_1]; rfl
  have k1 := h1
  have lt1 : ∀ x ∈ p1, x.block < W.heap.size := by obtain ⟨m, hm⟩ := k1; exact DataW.trod_lt m _ _ _ hm
  obtain ⟨cs1, x1, rfl, g1, hk1⟩ := arg_struct (opens_struct Try.underlying23 (by kernel_rfl) (opensF_cons (opens_string Try.underlying9) rfl (by kernel_rfl) (opensF_cons (opens_int Try.underlying2) rfl (by kernel_rfl) (opensF_last (opens_string Try.underlying9) rfl (by kernel_rfl))))) Try.underlying23 (hval 1 23 v1 rfl rfl) h1
  obtain ⟨_, _, e1_0, rfl, ⟨_, _, e1_1, rfl, rfl⟩⟩ := hk1
  obtain rfl : cs1 = #[.string x1.1, .int .i64 x1.2.1, .string x1.2.2] := by apply Array.toList_inj.1; rw [e1_0, e1_1]; rfl
  have k2 := h2
  have lt2 : ∀ x ∈ p2, x.block < W.heap.size := by obtain ⟨m, hm⟩ := k2; exact DataW.trod_lt m _ _ _ hm
  obtain ⟨cs2, x2, rfl, g2, hk2⟩ := arg_struct (opens_struct Try.underlying23 (by kernel_rfl) (opensF_cons (opens_string Try.underlying9) rfl (by kernel_rfl) (opensF_cons (opens_int Try.underlying2) rfl (by kernel_rfl) (opensF_last (opens_string Try.underlying9) rfl (by kernel_rfl))))) Try.underlying23 (hval 2 23 v2 rfl rfl) h2
  obtain ⟨_, _, e2_0, rfl, ⟨_, _, e2_1, rfl, rfl⟩⟩ := hk2
  obtain rfl : cs2 = #[.string x2.1, .int .i64 x2.2.1, .string x2.2.2] := by apply Array.toList_inj.1; rw [e2_0, e2_1]; rfl
  clear hA0 hval0 hsz0
  obtain ⟨k, h⟩ := pure_holds (x0.1) (x0.2.1) (x0.2.2) (x1.1) (x1.2.1) (x1.2.2) (x2.1) (x2.2.1) (x2.2.2) (g0.1) (g0.2.1) (g0.2.2) (g1.1) (g1.2.1) (g1.2.2) (g2.1) (g2.2.1) (g2.2.2)
  refine (laws_FnExactMergeKind.calls k (x0.1) (x0.2.1) (x0.2.2) (x1.1) (x1.2.1) (x1.2.2) (x2.1) (x2.2.1) (x2.2.2) true W  h).mono fun e W' ⟨he, bel⟩ => ?_
  subst he
  exact ⟨_, rfl, _, _, _, [], _, [], hW', trodAll_mk1 (shut_bool Try.underlying4 _), (trodAll_cons_mk (Below.trod laidOut (by kernel_rfl) (of_decide_eq_true (by kernel_rfl)) k0 bel lt0) (trodAll_cons_mk (Below.trod laidOut (by kernel_rfl) (of_decide_eq_true (by kernel_rfl)) k1 bel lt1) (trodAll_cons_mk (Below.trod laidOut (by kernel_rfl) (of_decide_eq_true (by kernel_rfl)) k2 bel lt2) trodAll_mk0))), rfl, bel.frame _, fun h => by cases h⟩
theorem over : Rows.fnExactMergeKindRow.holds Try.pinned (OpenSpec.ofChange Rows.fnExactMergeKindSpec) :=
  OpenClaim.holds_of_wide 3 Try.f3 rfl rfl rfl rfl rfl rfl rfl ⟨rfl, rfl, rfl, rfl, rfl⟩ rfl rfl rfl rfl rfl (by kernel_rfl) Try.func3 (by kernel_rfl)
    (of_decide_eq_true (by kernel_rfl)) (by unfold Func.isWrapper; first | (rw [if_pos (by decide +kernel)]; kernel_rfl) | (rw [if_neg (by decide +kernel)]; exact ⟨rfl, rfl⟩))
    (fun os started H enc _ => lifted os started H enc)
theorem proved : Rows.FnExactMergeKindSaid := over
#print axioms proved
end Go.Proofs.Ytjklgmflillagaa.fnExactMergeKindRow
namespace Go.Proofs.Ytjklgmflillagaa
/-- The row, under a short name, for the claim. -/
theorem fnExactMergeKind_holds : Rows.FnExactMergeKindSaid := fnExactMergeKindRow.proved
end Go.Proofs.Ytjklgmflillagaa
