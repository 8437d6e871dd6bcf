/- What a call hands back: results for reading. -/
import Derived.Test.YtjklgmflillagaaDoorEv20
namespace Go.Proofs.YtjklgmflillagaaDoor.Ev
open Go Go.RowKit
set_option linter.unusedVariables false
set_option linter.unusedSimpArgs false

section
variable {P : Program} {E : Env} {B : Nat → Prop} {F : Fz} {g : List GE} {w : World} {H : Hp}

theorem toAV_ok {t : Ty} {x : t.den} {v : AV} {u : Value} (hs : solid v = true) (hsh : shapeOk t v = true) (hv : VR1 F w g v u) {F' : Fz} {g' : List GE} (h : CR F' w t x u.cells.toList) : VR1 F' w g' (toAV t x) u := by
  have hleaf : (∀ cs, v ≠ .agg cs) → u.cells = #[u] := by
    intro hn
    have hs0 : solid0 v = true := by cases v <;> first | exact hs | exact absurd rfl (hn _)
    exact oneCell_cells (solid0_cell hs0 hv)
  cases t with
  | st t =>
    cases v <;> simp only [shapeOk] at hsh <;> try (cases hsh; done)
    obtain ⟨vs, rfl, _⟩ := hv
    exact ⟨vs, rfl, explode_ok t x _ h⟩
  | int k =>
    rw [hleaf (by rintro cs rfl; cases hsh)] at h
    simp only [CR, List.cons.injEq, and_true] at h
    exact h
  | bool =>
    rw [hleaf (by rintro cs rfl; cases hsh)] at h
    simp only [CR, List.cons.injEq, and_true] at h
    exact h
  | str =>
    rw [hleaf (by rintro cs rfl; cases hsh)] at h
    simp only [CR, List.cons.injEq, and_true] at h
    exact h
  | sl t =>
    rw [hleaf (by rintro cs rfl; cases hsh)] at h
    exact h
  | unit => trivial
  | pair a b => trivial

theorem asTy_sol {t : Ty} {v : AV} {x : t.den} (h : asTy H t v = some x) : solid v = true ∧ shapeOk t v = true := by
  unfold asTy at h
  split at h
  · rename_i hs _; simpa using hs
  · cases h

theorem asTy_val {t : Ty} {v : AV} {u : Value} {x : t.den} {ids : List Nat} (h : asTy H t v = some x) (hv : VR1 F w g v u) (hH : HR B F w g H) (hi : ∀ i ∈ ownIds (cellsOf v), i ∈ ids) {g' : List GE} :
    VR1 (lendF F g H ids) w g' (toAV t x) u := by
  obtain ⟨h1, h2⟩ := asTy_sol h
  exact toAV_ok h1 h2 hv (CR_lend hi (asTy_ok h hv hH))

theorem decTup_ok (hH : HR B F w g H) (ids : List Nat) {g' : List GE} : (ts : List Ty) → (vs : List AV) → (x : (retTy ts).den) → (us : List Value) → decTup H ts vs = some x → All2 (VR1 F w g) vs us →
    (∀ v ∈ vs, ∀ i ∈ ownIds (cellsOf v), i ∈ ids) → All2 (VR1 (lendF F g H ids) w g') (retVals false ts x 0).1 us
  | [], [], x, us, h, hv, _ => by cases hv; exact .nil
  | [], v :: vs, x, us, h, hv, _ => by cases h
  | [t], [v], x, us, h, hv, hi => by
    cases hv with
    | cons h1 h2 =>
      cases h2
      exact .cons (asTy_val h h1 hH (hi v (by simp))) .nil
  | [t], [], x, us, h, hv, _ => by cases h
  | [t], v :: v' :: vs, x, us, h, hv, _ => by simp [decTup] at h
  | t :: u :: ts, [], x, us, h, hv, _ => by cases h
  | t :: u :: ts, v :: vs, x, us, h, hv, hi => by
    cases hv with
    | cons h1 h2 =>
      simp only [decTup] at h
      split at h
      · rename_i y hy
        split at h
        · rename_i z hz
          cases h
          exact .cons (asTy_val hy h1 hH (hi v (by simp))) (decTup_ok hH ids (u :: ts) vs z _ hz h2 fun v' hv' => hi v' (by simp [hv']))
        · cases h
      · cases h

theorem decRet_ok (hH : HR B F w g H) {ts : List Ty} {v : AV} {u : Value} {x : (retTy ts).den} (h : decRet ts (v, H) = some x) (hv : VR2 F w g v u) {g' : List GE} :
    ∃ ids, VR2 (lendF F g H ids) w g' (one (retVals false ts x 0).1) u := by
  match ts, x, h with
  | [t], x, h =>
    have h : asTy H t v = some x := h
    exact ⟨ownIds (cellsOf v), VR1_2 (asTy_val h (VR2_sol hv (asTy_sol h).1) hH fun i hi => hi)⟩
  | [], x, h =>
    cases v with
    | tup vs =>
      obtain ⟨us, rfl, hall⟩ := hv
      refine ⟨vs.flatMap fun v => ownIds (cellsOf v), us, rfl, ?_⟩
      exact decTup_ok hH _ [] vs x _ h hall fun v hv i hi => List.mem_flatMap.2 ⟨v, hv, hi⟩
    | _ => simp [decRet] at h
  | t :: t' :: ts, x, h =>
    cases v with
    | tup vs =>
      obtain ⟨us, rfl, hall⟩ := hv
      have := decTup_ok (g' := g') hH (vs.flatMap fun v => ownIds (cellsOf v)) (t :: t' :: ts) vs x _ h hall fun v hv i hi => List.mem_flatMap.2 ⟨v, hv, hi⟩
      refine ⟨vs.flatMap fun v => ownIds (cellsOf v), ?_⟩
      cases ts with
      | nil => exact ⟨us, rfl, this⟩
      | cons a b => exact ⟨us, rfl, this⟩
    | _ => simp [decRet] at h

theorem ret_ro (hH : HR B F w g H) {F0 : Fz} {g0 : List GE} {w0 : World} (hb : Gr B F0 [] w0 F [] w) {ts : List Ty} {v : AV} {u : Value} {x : (retTy ts).den} (h : decRet ts (v, H) = some x) (hv : VR2 F w g v u) :
    RetOk B false ts [] F0 g0 w0 w x u := by
  obtain ⟨ids, hvr⟩ := decRet_ok (g' := []) hH h hv
  have hl := lend_gr hH ids
  have hl' : Gr B F [] w (lendF F g H ids) [] w := ⟨hl.up, hl.new, hl.cell, fun _ _ h => h, hl.below⟩
  have he : (retVals false ts x 0).2 = [] := by
    match ts, x with
    | [], _ => rfl
    | [_], _ => rfl
    | _ :: _ :: _, _ => rfl
  refine ⟨lendF F g H ids, [], hb.trans hl', ?_, hvr⟩
  show HR B _ w [] ((retVals false ts x 0).2)
  rw [he]
  exact ⟨rfl, fun i b e hb => by simp at hb, fun i b e hb => by simp at hb, fun i j b c e f hb => by simp at hb, fun k o hk => ⟨((lend_HR hH ids).frz k o hk).1, fun i b e hb => by simp at hb⟩⟩
end
end Go.Proofs.YtjklgmflillagaaDoor.Ev
