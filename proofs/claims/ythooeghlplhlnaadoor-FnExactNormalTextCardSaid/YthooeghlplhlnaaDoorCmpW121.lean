/- compareEntries, walked. -/
import Derived.Test.YthooeghlplhlnaaDoorProg
import Derived.Test.YthooeghlplhlnaaDoorEv1
import Derived.Shelf.Spec.SlicesInsertGrow
import Derived.Lib.Bytealg
import Derived.Sort.Grow
import Derived.Deep.RegionHeld3
set_option linter.unusedVariables false
set_option linter.unusedSimpArgs false
namespace Go.Proofs.YthooeghlplhlnaaDoor.Ev
open Go Go.Proofs Go.RowKit Go.Lib Go.Sort

theorem drew_cell (w : World) (a : Addr) : w.drew.cell? a = w.cell? a := rfl
set_option maxHeartbeats 2000000 in
theorem w_cmp64 (x y : Int) (W : World) : Calls Tryd.prog 158 #[.int .i64 x, .int .i64 y] W fun e w' => e = .returned (.int .i64 (if x < y then -1 else if y < x then 1 else 0)) ∧ w' = W := by
  go_enter Tryd.func158, Tryd.ntmps158
  go_wp2
  all_goals go_ret
  all_goals refine ⟨?_, rfl⟩
  all_goals simp_all

set_option maxHeartbeats 2000000 in
theorem w_compare (a b : ByteArray) (W : World) : Calls Tryd.prog 92 #[.string a, .string b] W fun e w' => e = .returned (.int .i64 (Go.Lib.compareBytes a.data.toList b.data.toList)) ∧ w' = W := by
  have hx : ∀ w, (callFunc 162 #[.string a, .string b]).run Tryd.prog w = .ok (.value (.int .i64 (Go.Lib.compareBytes a.data.toList b.data.toList))) w := fun w => by
    rw [run_callFunc_extern Tryd.func162 (by kernel_rfl) (by kernel_rfl) (by kernel_rfl) (e := Extern.BytealgCompare.compare) (by kernel_rfl), Go.Lib.run_compareString]
    rfl
  go_enter Tryd.func92, Tryd.ntmps92
  go_wp2_with (first | (simp only [hx]) | go_in)
  go_ret
  exact ⟨rfl, rfl⟩

set_option maxHeartbeats 2000000 in
theorem w_or (a b : Int) (blk c : Nat) (W : World) (h0 : W.cell? ⟨blk, 0, none⟩ = some (.int .i64 a)) (h1 : W.cell? ⟨blk, 1, none⟩ = some (.int .i64 b)) :
    Calls Tryd.prog 157 #[.slice (some ⟨blk, 0, none⟩) 2 c] W fun e w' => e = .returned (.int .i64 (orI a b)) ∧ w' = W := by
  unfold orI
  go_enter Tryd.func157, Tryd.ntmps157
  go_wp2
  refine wp_loop_rounds 3 ?_
  rw [rounds_succ]
  go_wp2
  · go_ret
    exact ⟨rfl, rfl⟩
  · exact absurd (by simpa using ‹(a != 0) = true›) ‹¬ a ≠ 0›
  · have ha : a = 0 := by simpa using ‹(a != 0) = false›
    subst ha
    rw [rounds_succ]
    go_wp2
    · go_ret
      exact ⟨by simp, rfl⟩
    · have hb : b = 0 := by simpa using ‹(b != 0) = false›
      subst hb
      rw [rounds_succ]
      go_wp2
      go_ret
      exact ⟨rfl, rfl⟩

set_option maxHeartbeats 4000000 in
theorem w_cmpEntries (x y : T_Entry.den) (W : World) : Calls Tryd.prog 121 #[.agg #[.string x.1, .int .i64 x.2.1, .int .i64 x.2.2.1, .string x.2.2.2.1], .agg #[.string y.1, .int .i64 y.2.1, .int .i64 y.2.2.1, .string y.2.2.2.1]] W
    fun e w' => e = .returned (.int .i64 (cf_Entry x y)) ∧ ∃ q os', w' = grow (W.drewN q) os' := by
  have mixed : Tryd.prog.follows .mixedOrders = true := by kernel_rfl
  have h1 := fun W' => w_compare x.1 y.1 W'
  have h2 := fun W' => w_cmp64 x.2.1 y.2.1 W'
  have h3 := fun a b blk W' g0 g1 => w_or a b blk 2 W' g0 g1
  unfold cf_Entry
  generalize Go.Lib.compareBytes x.1.data.toList y.1.data.toList = r1 at h1 ⊢
  generalize (if x.2.1 < y.2.1 then (-1 : Int) else if y.2.1 < x.2.1 then 1 else 0) = r2 at h2 ⊢
  go_enter Tryd.func121, Tryd.ntmps121
  go_wp2_with fail
  go_region_held3 (fun w' => w'.cell? ⟨W.heap.size, 0, none⟩ = some (.string x.1) ∧ w'.cell? ⟨W.heap.size + 1, 0, none⟩ = some (.string y.1) ∧ w'.cell? ⟨W.heap.size, 1, none⟩ = some (.int .i64 x.2.1) ∧ w'.cell? ⟨W.heap.size + 1, 1, none⟩ = some (.int .i64 y.2.1)) (go_keep) (first
    | (go_at_call 92; refine (h1 _).mono ?_; rintro e w' ⟨rfl, rfl⟩)
    | (go_at_call 158; refine (h2 _).mono ?_; rintro e w' ⟨rfl, rfl⟩)
    | (go_at_call 157; (refine (h3 r1 r2 _ _ (by first | (rw [drew_cell, World.cell?_alloc_at _ _ _ _ (by simp)]; rfl) | (rw [World.cell?_alloc_at _ _ _ _ (by simp)]; rfl)) (by first | (rw [drew_cell, World.cell?_alloc_at _ _ _ _ (by simp)]; rfl) | (rw [World.cell?_alloc_at _ _ _ _ (by simp)]; rfl))).mono ?_); rintro e w' ⟨rfl, rfl⟩))

  all_goals go_wp2
  all_goals go_ret
  all_goals exact ⟨rfl, 1, _, by rw [alloc_eq_grow, alloc_eq_grow, alloc_eq_grow, grow_grow, grow_grow]; rfl⟩
end Go.Proofs.YthooeghlplhlnaaDoor.Ev
