/- THE EVALUATOR IS RIGHT: what it says of a call is what the call does. -/
import Derived.Test.YtjklgmflillagaaDoorEv32
namespace Go.Proofs.YtjklgmflillagaaDoor.Ev
open Go Go.RowKit
set_option linter.unusedVariables false
set_option linter.unusedSimpArgs false

section
variable {P : Program} {E : Env}

theorem fin_ok {B : Nat → Prop} {F : Fz} {g g0 : List GE} {w w0 : World} {H : Hp} {F0 : Fz} {f : FuncId} {own : Bool} {x : Ret E f} {σ : AV} {v : Value} (h : finK E f own σ H = some x) (hv : VR2 F w g σ v) (hH : HR B F w g H)
    (hb : Gr B F0 [] w0 F [] w) (hk : backOf E f = [] ∨ (g0.length = (backOf E f).length ∧ ∀ (i : Nat) e, g0[i]? = some e → g[i]? = some e)) : RetOk B own (rtsOf E f) (backOf E f) F0 g0 w0 w x v := by
  unfold finK at h
  split at h
  · rename_i ho
    split at h
    · rename_i y hy
      split at h
      · rename_i z hz
        cases h
        cases own with
        | true => exact ret_own hH hb hk ho hy hz hv
        | false =>
          have he : (backOf E f).isEmpty = true := ho
          have hr := ret_ro (g0 := g0) hH hb hy hv
          clear hk ho
          generalize backOf E f = back at he z hz
          cases back with
          | nil => exact hr
          | cons a b => cases he
      · cases h
    · cases h
  · cases h

/-- what holds all along -/
def Base (E : Env) (f : FuncId) (B : Nat → Prop) (F0 : Fz) (g0 : List GE) (w0 : World) (F : Fz) (g : List GE) (w : World) : Prop :=
  Gr B F0 [] w0 F [] w ∧ (backOf E f = [] ∨ (g0.length = (backOf E f).length ∧ ∀ (i : Nat) e, g0[i]? = some e → g[i]? = some e))
theorem Base.gr {B : Nat → Prop} {F0 F F' : Fz} {g0 g g' : List GE} {w0 w w' : World} {f : FuncId} (h : Base E f B F0 g0 w0 F g w) (k : Gr B F g w F' g' w') : Base E f B F0 g0 w0 F' g' w' :=
  ⟨h.1.trans ⟨k.up, k.new, k.cell, fun _ _ h => h, k.below⟩, h.2.imp id fun h => ⟨h.1, fun i e he => k.ext _ _ (h.2 i e he)⟩⟩
theorem Base.cut {B : Nat → Prop} {F0 F F' : Fz} {g0 g g' : List GE} {w0 w : World} {f : FuncId} {fi : FI} (hf : E.fi f = some fi) (h : Base E f B F0 g0 w0 F g w) (k : Gr B F [] w F' [] w)
    (hk : fi.back.length ≤ g.length → ∀ i e, i < fi.back.length → g[i]? = some e → g'[i]? = some e) : Base E f B F0 g0 w0 F' g' w := by
  have hbk : backOf E f = fi.back := by unfold backOf; rw [hf]
  refine ⟨h.1.trans k, h.2.imp id fun h => ⟨h.1, fun i e he => ?_⟩⟩
  have hi := idx_lt he
  have hl : fi.back.length ≤ g.length := by
    rw [← hbk, ← h.1]
    rcases Nat.eq_zero_or_pos g0.length with h0 | h0
    · omega
    · have := idx_lt (h.2 (g0.length - 1) _ (List.getElem?_eq_getElem (by omega)))
      omega
  exact hk hl i e (by rw [← hbk, ← h.1]; exact hi) (h.2 i e he)

def CutsOk (P : Program) (E : Env) (n : Nat) : Prop :=
  ∀ f fi x todo ts H a B F0 g0 w0 F g w, E.fi f = some fi → ev E n f (.cut todo ts H) = some x → St B F g w H ts a → GlobOk E F w → Base E f B F0 g0 w0 F g w →
    Runs P f todo a w fun e w' => ∃ v, e = .returned v ∧ RetOk B fi.own (rtsOf E f) (backOf E f) F0 g0 w0 w' x v

theorem ev_ok (hE : ∀ t, TiOk P E t) (hfi : FiOk P E) (hmix : P.follows .mixedOrders = true) : ∀ n, CallOk P E (fun g as H => ev E n g (.call as H)) ∧ CutsOk P E n
  | 0 => ⟨fun f fi args H x B F g w vs _ h => by simp [ev] at h, fun f fi x todo ts H a B F0 g0 w0 F g w _ h => by simp [ev] at h⟩
  | n + 1 => by
    obtain ⟨ih1, ih2⟩ := ev_ok hE hfi hmix n
    refine ⟨fun f fi args H x B F g w vs hf h hargs hH hBs hg => ?_, fun f fi x todo ts H a B F0 g0 w0 F g w hf h hs hg hb => ?_⟩
    · obtain ⟨e1, e2, e3⟩ := hfi.1 f fi hf
      have hbk : backOf E f = fi.back := by unfold backOf; rw [hf]
      simp only [ev, hf] at h
      cases hbody : fi.fn.body with
      | none => rw [hbody] at e2; cases e2
      | some c =>
        simp only [hbody] at h
        split at h
        rotate_left
        · cases h
        rename_i hbl
        have hbase : Base E f B F g w F g w := by
          refine ⟨Gr.refl .., ?_⟩
          rw [hbk]
          rw [Bool.or_eq_true] at hbl
          rcases hbl with hbl | hbl
          · exact .inl (List.isEmpty_iff.1 hbl)
          · exact .inr ⟨by rw [hH.len]; exact (Nat.eq_of_beq_eq_true hbl).symm, fun _ _ h => h⟩
        refine Runs.calls e1 hbody ?_
        have hst : St B F g w H (entry fi args) { tmps := vs ++ Array.replicate (fi.fn.ntmps - vs.size) undef, defers := [] } := by
          refine ⟨?_, hH, hBs, rfl⟩
          have hl : args.length = vs.size := by rw [hargs.length]; simp
          simp only [entry, Array.toList_append, Array.toList_replicate, hl]
          exact hargs.append (All2.replicate (a := AV.top) (b := undef) trivial _)
        exact steps_ok hE hfi hmix ih1 STEPS x _ f fi _ _ H _ _ F g w _ (fun F' g' w' => Base E f B F g w F' g' w') e1 h hst hg hbase
          (fun _ _ _ _ _ _ h1 h2 => h1.gr h2) (fun _ _ _ _ _ _ h k q => h.cut hf k q)
          (fun σ H' v F' g' w' q1 q2 q3 q4 => ⟨v, rfl, fin_ok q1 q2 q4 q3.1 q3.2⟩)
          (fun gt hgt todo ts H a F' g' w' q1 q2 q3 q4 => by cases hgt; exact ih2 f fi x todo ts H a B F g w F' g' w' hf q1 q2 q3 q4)
    · obtain ⟨e1, e2, e3⟩ := hfi.1 f fi hf
      simp only [ev, hf] at h
      split at h
      · rename_i id ops draw k
        split at h
        · rename_i hd
          refine Runs.region (Post := fun a' w' => Runs P f k a' w' fun e w' => ∃ v, e = .returned v ∧ RetOk B fi.own (rtsOf E f) (backOf E f) F0 g0 w0 w' x v)
            (region_ok hE hfi hmix ih1 ?_ hd (fun e => by subst e; rfl) h hs hg fun ts' H' a' w' F' g' k1 k2 k3 k4 => ?_) (fun _ _ h => h)
          · intro f' fi' args H K y F g w vs hf' hi hargs hH hB' hgl
            obtain ⟨d1, d2, d3⟩ := hfi.1 f' fi' hf'
            cases hbody : fi'.fn.body with
            | none => rw [hbody] at d2; cases d2
            | some c =>
              cases draw with
              | true => cases hi
              | false =>
              simp only [hbody, inlOf] at hi
              refine Runs.calls d1 hbody ?_
              have hst : St B F g w H (entry fi' args) { tmps := vs ++ Array.replicate (fi'.fn.ntmps - vs.size) undef, defers := [] } := by
                refine ⟨?_, hH, hB', rfl⟩
                have hl : args.length = vs.size := by rw [hargs.length]; simp
                simp only [entry, Array.toList_append, Array.toList_replicate, hl]
                exact hargs.append (All2.replicate (a := AV.top) (b := undef) trivial _)
              exact steps_ok hE hfi hmix ih1 STEPS y none f' fi' _ _ H K _ F g w _ (fun F' g' w' => Gr B F g w F' g' w') d1 hi hst hgl (Gr.refl ..) (fun _ _ _ _ _ _ h1 h2 => h1.trans h2) (fun h => by cases h)
                (fun σ H' v F' g' w' q1 q2 q3 q4 => ⟨v, σ, H', F', g', rfl, q1, q2, q3, q4⟩) (fun gt h => by cases h)
          · exact steps_ok hE hfi hmix ih1 STEPS x _ f fi k ts' H' _ a' F' g' w' _ (fun F' g' w' => Base E f B F0 g0 w0 F' g' w') e1 k1 k2 k3
              (hb.gr k4) (fun _ _ _ _ _ _ h1 h2 => h1.gr h2) (fun _ _ _ _ _ _ h k q => h.cut hf k q)
              (fun σ H' v F' g' w' q1 q2 q3 q4 => ⟨v, rfl, fin_ok q1 q2 q4 q3.1 q3.2⟩)
              (fun gt hgt todo ts H a F' g' w' q1 q2 q3 q4 => by cases hgt; exact ih2 f fi x todo ts H a B F0 g0 w0 F' g' w' hf q1 q2 q3 q4)
        · cases h
      · cases h
end
end Go.Proofs.YtjklgmflillagaaDoor.Ev
