/- The walk of a function's body: the steps. -/
import Derived.Test.YtjklgmflillagaaDoorEv23
import Derived.Test.YtjklgmflillagaaDoorEv31
namespace Go.Proofs.YtjklgmflillagaaDoor.Ev
open Go Go.RowKit
set_option linter.unusedVariables false
set_option linter.unusedSimpArgs false

section
variable {α : Type} {P : Program} {E : Env} {B : Nat → Prop} {F : Fz} {g : List GE} {w : World} {H : Hp}

theorem St.drew {ts : List AV} {a : Act} (hs : St B F g w H ts a) : Gr B F g w F g w.drew ∧ St B F g w.drew H ts a := by
  have hn := News.drew w
  have hg := hn.gr hs.heap hs.base
  exact ⟨hg, hs.tmps.mono fun _ _ => VR2_gr hg, hn.HR hs.heap hs.base, hs.base, hs.defers⟩

/-- what is to be shown of a cut, and of a region whose order is drawn -/
def CutOk (E : Env) : Prop := True

theorem region_ok (hE : ∀ t, TiOk P E t) (hfi : FiOk P E) (hmix : P.follows .mixedOrders = true) {call : (g : FuncId) → List AV → Hp → Option (Ret E g)} (hcall : CallOk P E call) {inl : FI → List AV → Hp → Fin α → Option α} (hinl : InlOk P E B inl)
    {id : Nat} {ops : Array Oper} {draw : Bool} (hd : (!draw || drawOk E ops) = true) (hdr : draw = true → inl = fun _ _ _ _ => none) {K : List AV → Hp → Option α} {x : α} {Post : Act → World → Prop} {ts : List AV} {a : Act}
    (h : opsK E call inl ops (List.range ops.size) ts H K = some x) (hs : St B F g w H ts a) (hg : GlobOk E F w)
    (hK : ∀ ts' H' a' w' F' g', K ts' H' = some x → St B F' g' w' H' ts' a' → GlobOk E F' w' → Gr B F g w F' g' w' → Post a' w') :
    (Code.region id ops draw).wp P (fun e a w => e = .normal ∧ Post a w) a w := by
  cases draw with
  | false => exact wp_region (opsK_ok hE hfi hcall hinl _ _ _ _ _ _ _ h hs hg hK)
  | true =>
    have hd : drawOk E ops = true := hd
    rw [hdr rfl] at h
    obtain ⟨hgr, hs'⟩ := hs.drew
    refine wp_region_any hmix ?_
    have hr : remOf ops (Array.replicate ops.size false) = List.range ops.size := by
      unfold remOf
      rw [List.filter_eq_self]
      intro i hi
      have := List.mem_range.1 hi
      simp [Array.getD, this]
    refine drawn_any (K := K) (x := x) hE hfi hcall hd ops.size _ ts H a _ F g (by simp) (by rw [hr]; simp) ?_ (by rw [hr]; exact h) hs' (hg.gr hgr) fun ts' H' a' w' F' g' k1 k2 k3 k4 => ⟨rfl, hK _ _ _ _ _ _ k1 k2 k3 (hgr.trans k4)⟩
    intro m hm
    simp [Array.getD] at hm

theorem steps_ok (hE : ∀ t, TiOk P E t) (hfi : FiOk P E) (hmix : P.follows .mixedOrders = true) {call : (g : FuncId) → List AV → Hp → Option (Ret E g)} (hcall : CallOk P E call) :
    ∀ (n : Nat) (x : α) (goto : Option (List Item → List AV → Hp → Option α)) (f : FuncId) (fi : FI) (todo : List Item) (ts : List AV) (H : Hp) (fin : Fin α) (a : Act) (F : Fz) (g : List GE) (w : World)
      (R : Ending → World → Prop) (Base : Fz → List GE → World → Prop), P.funcs[f]? = some fi.fn →
    steps E call n goto fi todo ts H fin = some x → St B F g w H ts a → GlobOk E F w → Base F g w →
    (∀ F g w F' g' w', Base F g w → Gr B F g w F' g' w' → Base F' g' w') → (goto.isSome = true → ∀ F g w F' g', Base F g w → Gr B F [] w F' [] w → (fi.back.length ≤ g.length → ∀ i e, i < fi.back.length → g[i]? = some e → g'[i]? = some e) → Base F' g' w) →
    (∀ σ H' v F' g' w', fin σ H' = some x → VR2 F' w' g' σ v → Base F' g' w' → HR B F' w' g' H' → R (.returned v) w') →
    (∀ gt, goto = some gt → ∀ todo ts H a F g w, gt todo ts H = some x → St B F g w H ts a → GlobOk E F w → Base F g w → Runs P f todo a w R) →
    Runs P f todo a w R
  | 0, _, _, _, _, _, _, _, _, _, _, _, _, _, _, _, h, _, _, _, _, _, _, _ => by simp [steps] at h
  | n + 1, x, goto, f, fi, todo, ts, H, fin, a, F, g, w, R, Base, hf, h, hs, hg, hb, hB, hcut, hfin, hgoto => by
    have ih : ∀ todo', steps E call n goto fi todo' ts H fin = some x → Runs P f todo' a w R := fun todo' h' =>
      steps_ok hE hfi hmix hcall n x goto f fi todo' ts H fin a F g w R Base hf h' hs hg hb hB hcut hfin hgoto
    have hret : finR E fi.fn ts H fin = some x → ∀ (b : Frame) (cs : List Frame) (todo : List Item) (m : Machine), b.fn = f → b.kind = .normal → Steps P m (lone { b.at a todo with mode := .returning } cs w) →
        ∃ e w' fr, R e w' ∧ Comes P m (lone fr cs w') e ∧ fr.fn = f ∧ fr.leaving P w' e := by
      intro h b cs todo m hbf hbk hst
      unfold finR at h
      split at h
      · rename_i vs hvs
        obtain ⟨v, hv1, hv2⟩ := results_ok hE hs hvs
        exact ⟨.returned v, w, _, hfin _ H v F g w h hv2 hb hs.heap, hst, hbf, rfl, hs.defers, hbk, fi.fn, by rw [← hf, ← hbf]; rfl, hv1⟩
      · cases h
    simp only [steps] at h
    split at h
    · intro b cs hbf hbk
      exact hret h b cs [] _ hbf hbk (.one step_end)
    · intro b cs hbf hbk
      exact hret h b cs _ _ hbf hbk (.one step_ret)
    · exact Runs.step (fun b cs _ => step_skip) (ih _ h)
    · exact Runs.step (fun b cs _ => step_label) (ih _ h)
    · exact Runs.step (fun b cs _ => step_inBlock) (ih _ h)
    · exact Runs.step (fun b cs _ => step_seq) (ih _ h)
    · rename_i c t e k
      split at h
      · rename_i q hq
        have hc := opnd_ok hs hg c
        rw [hq] at hc
        have hc : a.eval c = .bool q := hc
        cases q with
        | true => exact Runs.step (fun b cs _ => step_cond hc) (ih _ h)
        | false => exact Runs.step (fun b cs _ => step_cond hc) (ih _ h)
      · cases h
    · exact Runs.step (fun b cs _ => step_block) (ih _ h)
    · exact Runs.step (fun b cs _ => step_loop) (ih _ h)
    · exact Runs.step (fun b cs _ => step_inLoop) (ih _ h)
    · split at h
      · rename_i k' hk'
        exact Runs.step (fun b cs _ => step_exit hk') (ih _ h)
      · cases h
    · rename_i id ops draw k
      have hregion : ∀ hdd : (!draw || drawOk E ops) = true, opsK E call (fun gi args H fin => inlOf draw gi.fn.body fun c => steps E call n none gi [.code c] (entry gi args) H fin) ops (List.range ops.size) ts H (fun ts H => steps E call n goto fi k ts H fin) = some x → Runs P f (.code (.region id ops draw) :: k) a w R := by
        intro hd h
        refine Runs.region (Post := fun a' w' => Runs P f k a' w' R) (region_ok hE hfi hmix hcall ?_ hd (fun e => by subst e; rfl) h hs hg fun ts' H' a' w' F' g' k1 k2 k3 k4 => ?_) (fun _ _ h => h)
        · intro f' fi' args H K y F g w vs hf' hi hargs hH hB' hgl
          obtain ⟨e1, e2, e3⟩ := hfi.1 f' fi' hf'
          cases hbody : fi'.fn.body with
          | none => rw [hbody] at e2; cases e2
          | some c =>
            cases draw with
            | true => cases hi
            | false =>
            simp only [hbody, inlOf] at hi
            refine Runs.calls e1 hbody ?_
            have hst : St B F g w H (entry fi' args) { tmps := vs ++ Array.replicate (fi'.fn.ntmps - vs.size) undef, defers := [] } := by
              refine ⟨?_, hH, hB', rfl⟩
              have hl : args.length = vs.size := by rw [hargs.length]; simp
              simp only [entry, Array.toList_append, Array.toList_replicate, hl]
              exact hargs.append (All2.replicate (a := AV.top) (b := undef) trivial _)
            exact steps_ok hE hfi hmix hcall n y none f' fi' _ _ H K _ F g w _ (fun F' g' w' => Gr B F g w F' g' w') e1 hi hst hgl (Gr.refl ..) (fun _ _ _ _ _ _ h1 h2 => h1.trans h2) (fun h => by cases h)
              (fun σ H' v F' g' w' q1 q2 q3 q4 => ⟨v, σ, H', F', g', rfl, q1, q2, q3, q4⟩) (fun gt h => by cases h)
        · exact steps_ok hE hfi hmix hcall n x goto f fi k ts' H' fin a' F' g' w' R Base hf k1 k2 k3 (hB _ _ _ _ _ _ hb k4) hB hcut hfin hgoto
      have hplain : (match !draw || drawOk E ops with
          | true => opsK E call (fun gi args H fin => inlOf draw gi.fn.body fun c => steps E call n none gi [.code c] (entry gi args) H fin) ops (List.range ops.size) ts H (fun ts H => steps E call n goto fi k ts H fin)
          | false => none) = some x → Runs P f (.code (.region id ops draw) :: k) a w R := by
        intro h
        cases hd : (!draw || drawOk E ops) with
        | true => rw [hd] at h; exact hregion hd h
        | false => rw [hd] at h; cases h
      cases hgo : goto with
      | none =>
        subst hgo
        exact hplain h
      | some gt =>
        subst hgo
        cases hlk : fi.cuts.lookup id with
        | none =>
          simp only [hlk] at h
          exact hplain h
        | some la =>
          obtain ⟨live, as⟩ := la
          simp only [hlk] at h
          obtain ⟨ts', H', F', g', h1, h2, h3, h4⟩ := goCut_ok h hs
          have hb' : Base F' g' w := hcut rfl _ _ _ _ _ hb h3 h4
          exact hgoto gt rfl _ _ _ _ _ _ _ h1 h2 (hg.gr (g := []) (g' := []) h3) hb'
    · cases h
end
end Go.Proofs.YtjklgmflillagaaDoor.Ev
