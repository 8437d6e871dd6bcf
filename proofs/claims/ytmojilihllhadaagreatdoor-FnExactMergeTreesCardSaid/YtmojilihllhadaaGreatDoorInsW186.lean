/- slices.Insert, walked: what it does with memory, out of what its builtins do. -/
import Derived.Test.YtmojilihllhadaaGreatDoorProg
import Derived.Shelf.Spec.SlicesInsertGrow
set_option linter.unusedVariables false
set_option linter.unusedSimpArgs false
namespace Go.Proofs.YtmojilihllhadaaGreatDoor.Ev.Ins186
open Go Go.Proofs Go.RowKit Go.Lib
variable {P : Program}

structure Facts (P : Program) : Prop where
  mixed : P.follows .mixedOrders = true
  f : P.funcs[186]? = some Tryz.f186
  t3 : P.underlying 3 = some (TypeDesc.int IntKind.i64)
  a3 : ∀ w, (isAgg 3).run P w = .ok false w
  z3 : ∀ w, (Go.sizeOf 3).run P w = .ok 1 w
  v3 : ∀ w, (zeroValue 3).run P w = .ok (Value.int IntKind.i64 0) w
  t4 : P.underlying 4 = some (TypeDesc.bool)
  a4 : ∀ w, (isAgg 4).run P w = .ok false w
  z4 : ∀ w, (Go.sizeOf 4).run P w = .ok 1 w
  v4 : ∀ w, (zeroValue 4).run P w = .ok (Value.bool false) w
  tS : P.underlying 29 = some (TypeDesc.slice 90)
  aS : ∀ w, (isAgg 29).run P w = .ok false w
  zS : ∀ w, (Go.sizeOf 29).run P w = .ok 1 w
  vS : ∀ w, (zeroValue 29).run P w = .ok (Value.slice none 0 0) w
  zE : ∀ w, (Go.sizeOf 90).run P w = .ok 3 w

theorem ntmps : Tryz.f186.ntmps = 95 := rfl

set_option maxHeartbeats 4000000 in
set_option maxRecDepth 100000 in
/-- at the end -/
theorem w_end (L : Facts P) (base : Option Addr) (n c : Nat) (vb : Option Addr) (m vc : Nat) (w : World) (hm : 0 < m) (hnc : n ≤ c) (hn : n < 4294967296) {r : Value} {w' : World}
    (hrun : ∀ ty, (Builtin.append_ #[29, 29] ty #[.slice base n c, .slice vb m vc]).run P w = .ok r w') :
    Calls P 186 #[.slice base n c, .int .i64 n, .slice vb m vc] w fun e w'' => e = .returned r ∧ w'' = w' := by
  have t3 := L.t3; have a3 := L.a3; have z3 := L.z3; have v3 := L.v3; have t4 := L.t4; have a4 := L.a4; have z4 := L.z4; have v4 := L.v4; have tS := L.tS; have aS := L.aS; have zS := L.zS; have vS := L.vS; have zE := L.zE
  have u3 := run_underlying L.t3; have u4 := run_underlying L.t4; have uS := run_underlying L.tS
  have mixed := L.mixed
  have hz1 : ¬ ((m : Int) = 0) := by omega
  go_enter L.f, ntmps
  cases base with
  | none =>
    go_wp2_with (at_builtin; refine Lib.wpList_append_run _ rfl _ _ _ _ rfl _ _ rfl rfl _ _ (hrun _) ?_)
    all_goals (go_ret; exact ⟨rfl, rfl⟩)
  | some a =>
    obtain ⟨ab, ao, asp⟩ := a
    go_wp2_with (at_builtin; refine Lib.wpList_append_run _ rfl _ _ _ _ rfl _ _ rfl rfl _ _ (hrun _) ?_)
    all_goals (go_ret; exact ⟨rfl, rfl⟩)

set_option maxHeartbeats 4000000 in
set_option maxRecDepth 100000 in
/-- in the middle, there is room -/
theorem w_shift (L : Facts P) (b off n c i : Nat) (vb : Option Addr) (m vc : Nat) (w : World) (hi : i < n) (hm : 0 < m) (hroom : n + m ≤ c) (hbig : n + m < 4294967296) {x y : Value} {R1 R2 : List Value}
    (hov : (callFunc 233 #[.slice vb m vc, .slice (some ⟨b, off + (i + m) * 3, none⟩) (n + m - (i + m)) (c - (i + m))]).run P w = .ok (.value (.bool false)) w)
    (h1 : ∀ W ty dc sc, W.heap = w.heap → (Builtin.copy_ #[29, 29] ty #[.slice (some ⟨b, off + (i + m) * 3, none⟩) (n + m - (i + m)) dc, .slice (some ⟨b, off + i * 3, none⟩) (n + m - i) sc]).run P W = .ok x (W.setRow b R1.toArray))
    (h2 : ∀ W ty dc, W.heap = (w.setRow b R1.toArray).heap → (Builtin.copy_ #[29, 29] ty #[.slice (some ⟨b, off + i * 3, none⟩) (n + m - i) dc, .slice vb m vc]).run P W = .ok y (W.setRow b R2.toArray)) :
    Calls P 186 #[.slice (some ⟨b, off, none⟩) n c, .int .i64 i, .slice vb m vc] w fun e w'' =>
      e = .returned (.slice (some ⟨b, off, none⟩) (n + m) c) ∧ w''.heap = ((w.setRow b R1.toArray).setRow b R2.toArray).heap ∧ w''.os = w.os ∧ w''.tape = w.tape ∧ w''.output = w.output := by
  have t3 := L.t3; have a3 := L.a3; have z3 := L.z3; have v3 := L.v3; have t4 := L.t4; have a4 := L.a4; have z4 := L.z4; have v4 := L.v4; have tS := L.tS; have aS := L.aS; have zS := L.zS; have vS := L.vS; have zE := L.zE
  have u3 := run_underlying L.t3; have u4 := run_underlying L.t4; have uS := run_underlying L.tS
  have mixed := L.mixed
  have hz1 : ¬ ((m : Int) = 0) := by omega
  have hz2 : ¬ ((i : Int) = (n : Int)) := by omega
  have hw1 : IntKind.i64.wrap ((i : Int) + (m : Int)) = (i : Int) + (m : Int) := by rw [IntKind.wrap_i64]; omega
  have hb1 : (0 : Int) ≤ (i : Int) + (m : Int) := by omega
  have hin : i ≤ n := by omega
  have htn : ((i : Int) + (m : Int)).toNat = i + m := by omega
  have hb2 : ¬ (c = i + m) := by omega
  have hb3 : (i : Int) ≤ (n : Int) + (m : Int) := by omega
  have hb4 : ¬ (c = i) := by omega
  go_enter L.f, ntmps
  go_wp2_with (simp only [hov])
  go_region_law_o (refine step_copy_runI rfl _ _ 29 29 rfl (.slice (some ⟨b, off + (i + m) * 3, none⟩) (n + m - (i + m)) (c - (i + m))) (.slice (some ⟨b, off + i * 3, none⟩) (n + m - i) (c - i)) (by simp [Act.eval, Act.put]) (by simp [Act.eval, Act.put]) (h1 w.drew 3 (c - (i + m)) (c - i) rfl) ?_)
  have h2' := fun ty dc => h2 (w.drew.setRow b R1.toArray) ty dc rfl
  go_wp2
  go_ret
  exact ⟨rfl, rfl, rfl, rfl, rfl⟩

set_option maxHeartbeats 4000000 in
set_option maxRecDepth 100000 in
/-- in the middle, no room -/
theorem w_grow (L : Facts P) (b off n c i : Nat) (vb : Option Addr) (m vc : Nat) (w : World) (hi : i < n) (hm : 0 < m) (hnc : n ≤ c) (hroom : c < n + m) (hbig : n + m < 4294967296) {x y : Value} {R1 R2 : List Value} {N G : Nat} {w1 : World} (hG : n + m ≤ G)
    (h0 : ∀ ty, (Builtin.append_ #[29, 3] ty #[.slice (some ⟨b, off, none⟩) i c, .int .i64 ((n : Int) + (m : Int) - (i : Int))]).run P w = .ok (.slice (some ⟨N, 0, none⟩) (n + m) G) w1)
    (h1 : ∀ W ty dc, W.heap = w1.heap → (Builtin.copy_ #[29, 29] ty #[.slice (some ⟨N, i * 3, none⟩) (n + m - i) dc, .slice vb m vc]).run P W = .ok x (W.setRow N R1.toArray))
    (h2 : ∀ W ty dc sc, W.heap = (w1.setRow N R1.toArray).heap → (Builtin.copy_ #[29, 29] ty #[.slice (some ⟨N, (i + m) * 3, none⟩) (n + m - (i + m)) dc, .slice (some ⟨b, off + i * 3, none⟩) (n - i) sc]).run P W = .ok y (W.setRow N R2.toArray)) :
    Calls P 186 #[.slice (some ⟨b, off, none⟩) n c, .int .i64 i, .slice vb m vc] w fun e w'' =>
      e = .returned (.slice (some ⟨N, 0, none⟩) (n + m) G) ∧ w''.heap = ((w1.setRow N R1.toArray).setRow N R2.toArray).heap ∧ w''.os = w1.os ∧ w''.tape = w1.tape ∧ w''.output = w1.output := by
  have t3 := L.t3; have a3 := L.a3; have z3 := L.z3; have v3 := L.v3; have t4 := L.t4; have a4 := L.a4; have z4 := L.z4; have v4 := L.v4; have tS := L.tS; have aS := L.aS; have zS := L.zS; have vS := L.vS; have zE := L.zE
  have u3 := run_underlying L.t3; have u4 := run_underlying L.t4; have uS := run_underlying L.tS
  have mixed := L.mixed
  have hz1 : ¬ ((m : Int) = 0) := by omega
  have hz2 : ¬ ((i : Int) = (n : Int)) := by omega
  have hz3 : (c : Int) < (n : Int) + (m : Int) := by omega
  have hw1 : IntKind.i64.wrap ((i : Int) + (m : Int)) = (i : Int) + (m : Int) := by rw [IntKind.wrap_i64]; omega
  have hb1 : (0 : Int) ≤ (i : Int) + (m : Int) := by omega
  have hin : i ≤ n := by omega
  have htn : ((i : Int) + (m : Int)).toNat = i + m := by omega
  have hb3 : (i : Int) ≤ (n : Int) := by omega
  have hGi : ¬ (G = i) := by omega
  have hGim : ¬ (G = i + m) := by omega
  have hci : ¬ (c = i) := by omega
  go_enter L.f, ntmps
  go_wp2_with (first
    | (at_builtin; refine Lib.wpList_append_run _ rfl _ _ _ _ rfl _ _ rfl rfl _ _ (h0 _) ?_)
    | (at_builtin; refine wpList_copy_runI _ rfl _ _ 29 29 rfl _ _ rfl rfl (h1 w1 _ _ rfl) ?_))
  go_region_law_o (refine step_copy_runI rfl _ _ 29 29 rfl (.slice (some ⟨N, (i + m) * 3, none⟩) (n + m - (i + m)) (G - (i + m))) (.slice (some ⟨b, off + i * 3, none⟩) (n - i) (c - i)) (by simp [Act.eval, Act.put]) (by simp [Act.eval, Act.put]) (h2 (w1.setRow N R1.toArray).drew 3 (G - (i + m)) (c - i) rfl) ?_)
  go_wp2
  go_ret
  exact ⟨rfl, rfl, rfl, rfl, rfl⟩
end Go.Proofs.YtmojilihllhadaaGreatDoor.Ev.Ins186
