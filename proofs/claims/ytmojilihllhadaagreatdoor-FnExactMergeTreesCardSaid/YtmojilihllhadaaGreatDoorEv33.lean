/- The evaluator: Ev20, Ev21, Ev32, Ev24, Ev33. -/
import Derived.Test.YtmojilihllhadaaGreatDoorEv31
import Derived.ChangeKeysEq
/- The walk of a function's body: the steps. -/
namespace Go.Proofs.YtmojilihllhadaaGreatDoor.Ev
open Go Go.RowKit
set_option linter.unusedVariables false
set_option linter.unusedSimpArgs false
section
variable {α : Type} {P : Program} {E : Env} {B : Nat → Prop} {F : Fz} {g : List GE} {w : World} {H : Hp}
theorem St.drew {ts : List AV} {a : Act} (hs : St B F g w H ts a) : Gr B F g w F g w.drew ∧ St B F g w.drew H ts a := by
  have hn := News.drew w
  have hg := hn.gr hs.heap hs.base
  exact ⟨hg, hs.tmps.mono fun _ _ => VR2_gr hg, hn.HR hs.heap hs.base, hs.base, hs.defers⟩
theorem xtOne_no {P : Program} {E : Env} {f : FuncId} {x : XT} (h : XtOne P E f x) : XtOne P (noOwn E) f x := ⟨h.fn, h.by_hand⟩
theorem region_ok (hE : ∀ t, TiOk P E t) (hfi : FiOk P E) (hmix : P.follows .mixedOrders = true) {call : (g : FuncId) → List AV → Hp → Option (Ret E g)} (hcall : CallOk P E call) {inl : FI → List AV → Hp → Fin α → Option α} (hinl : ∀ B, InlOk P E B inl)
    {id : Nat} {ops : Array Oper} {draw : Bool} {K : List AV → Hp → Option α} {x : α} {Post : Act → World → Prop} {ts : List AV} {a : Act} 
    (h : regionK E call inl ops ts H draw K = some x) (hs : St B F g w H ts a) (hg : GlobOk E B F w)
    (hK : ∀ ts' H' a' w' F' g', K ts' H' = some x → St B F' g' w' H' ts' a' → GlobOk E B F' w' → Gr B F g w F' g' w' → Post a' w') :
    (Code.region id ops draw).wp P (fun e a w => e = .normal ∧ Post a w) a w := by
  cases draw with
  | false => exact wp_region (opsK_ok hE hfi hcall (hinl _) _ _ _ _ _ _ _ h hs hg hK)
  | true =>
    simp only [regionK] at h
    split at h
    rotate_left
    · cases h
    rename_i hd
    have hE' : ∀ t, TiOk P (noOwn E) t := fun t => ⟨(hE t).slice, (hE t).array, (hE t).int, (hE t).bool, (hE t).str, (hE t).struct, (hE t).flds, (hE t).info, (hE t).zlen, (hE t).places, (hE t).elem, (hE t).u8, (hE t).ptr, (hE t).map, (hE t).bz, (hE t).eqs⟩
    have hfi' : FiOk P (noOwn E) := ⟨hfi.1, fun f x hx => xtOne_no (hfi.2 f x hx)⟩
    have hcall' : CallOk P (noOwn E) call := hcall
    have hinl' : ∀ B, InlOk P (noOwn E) B inl := hinl
    have hg' : GlobOk (noOwn E) B F w := hg
    obtain ⟨hgr, hs'⟩ := hs.drew
    refine wp_region_any hmix ?_
    have hr : remOf ops (Array.replicate ops.size false) = List.range ops.size := by
      unfold remOf
      rw [List.filter_eq_self]
      intro i hi
      have := List.mem_range.1 hi
      simp [Array.getD, this]
    refine drawn_any (K := K) (x := x) (B0 := B) (F0 := F) (g0 := g) (w0 := w.drew) (E := noOwn E) hE' hfi' hcall' hinl' (fun k o ho => voOf_keep ho) (fun k o ho => roOf_keep ho) hd (hg'.gr hgr) (fun ts' H' a' w' F' g' k1 k2 k3 k4 => ⟨rfl, hK _ _ _ _ _ _ k1 k2 k3 (hgr.trans k4)⟩) ops.size _ [] ts H a _ F g (by simp) (by rw [hr]; simp) ?_ ⟨by simp, by simp, by simp, by simp, ?_, ?_, Gr.refl .., roOf_ok ops ts, voOf_ok ops ts, fun j o d t hl _ => ?_⟩
    · intro m hm
      simp [Array.getD] at hm
    · have : remP ops (Array.replicate ops.size false) [] = remOf ops (Array.replicate ops.size false) := by unfold remP remOf; simp
      rw [this, hr]; exact h
    · have hBe : BP B [] = B := funext fun k => propext ⟨fun h => h.elim (fun h => h) fun ⟨_, h, _⟩ => (by cases h), .inl⟩
      rw [hBe]; exact hs'
    · have hmem := (List.mem_filter.1 (show d ∈ (List.range ts.length).filter fun s => isTop (ts.getD s .top) from hl.mem)).2
      generalize ts.getD d .top = v at hmem ⊢
      cases v <;> first | rfl | cases hmem
theorem steps_ok (hE : ∀ t, TiOk P E t) (hfi : FiOk P E) (hmix : P.follows .mixedOrders = true) {call : (g : FuncId) → List AV → Hp → Option (Ret E g)} (hcall : CallOk P E call) :
    ∀ (B : Nat → Prop) (n : Nat) (x : α) (goto : Option (List Item → List AV → Hp → Option α)) (f : FuncId) (fi : FI) (todo : List Item) (ts : List AV) (H : Hp) (fin : Fin α) (a : Act) (F : Fz) (g : List GE) (w : World)
      (R : Ending → World → Prop) (Base : Fz → List GE → World → Prop), P.funcs[f]? = some fi.fn →
    steps E call n goto fi todo ts H fin = some x → St B F g w H ts a → GlobOk E B F w → Base F g w →
    (∀ F g w F' g' w', Base F g w → Gr B F g w F' g' w' → Base F' g' w') → (goto.isSome = true → ∀ F g w F' g', Base F g w → Gr B F [] w F' [] w → (fi.back.length ≤ g.length → ∀ i e, i < fi.back.length → g[i]? = some e → g'[i]? = some e) → Base F' g' w) →
    (∀ σ H' v F' g' w', fin σ H' = some x → VR2 F' w' g' σ v → Base F' g' w' → HR B F' w' g' H' → R (.returned v) w') →
    (∀ gt, goto = some gt → ∀ todo ts H a F g w, gt todo ts H = some x → St B F g w H ts a → GlobOk E B F w → Base F g w → Runs P f todo a w R) →
    Runs P f todo a w R
  | _, 0, _, _, _, _, _, _, _, _, _, _, _, _, _, _, _, h, _, _, _, _, _, _, _ => by simp [steps] at h
  | B, n + 1, x, goto, f, fi, todo, ts, H, fin, a, F, g, w, R, Base, hf, h, hs, hg, hb, hB, hcut, hfin, hgoto => by
    have ih : ∀ todo', steps E call n goto fi todo' ts H fin = some x → Runs P f todo' a w R := fun todo' h' =>
      steps_ok hE hfi hmix hcall B n x goto f fi todo' ts H fin a F g w R Base hf h' hs hg hb hB hcut hfin hgoto
    have hret : finR E fi.fn ts H fin = some x → ∀ (b : Frame) (cs : List Frame) (todo : List Item) (m : Machine), b.fn = f → b.kind = .normal → Steps P m (lone { b.at a todo with mode := .returning } cs w) →
        ∃ e w' fr, R e w' ∧ Comes P m (lone fr cs w') e ∧ fr.fn = f ∧ fr.leaving P w' e := by
      intro h b cs todo m hbf hbk hst
      unfold finR at h
      split at h
      · rename_i vs hvs
        obtain ⟨v, hv1, hv2⟩ := results_ok hE hs hvs
        exact ⟨.returned v, w, _, hfin _ H v F g w h hv2 hb hs.heap, hst, hbf, rfl, hs.defers, hbk, fi.fn, by rw [← hf, ← hbf]; rfl, hv1⟩
      · cases h
    simp only [steps] at h
    split at h
    · intro b cs hbf hbk
      exact hret h b cs [] _ hbf hbk (.one step_end)
    · intro b cs hbf hbk
      exact hret h b cs _ _ hbf hbk (.one step_ret)
    · exact Runs.step (fun b cs _ => step_skip) (ih _ h)
    · exact Runs.step (fun b cs _ => step_label) (ih _ h)
    · exact Runs.step (fun b cs _ => step_inBlock) (ih _ h)
    · exact Runs.step (fun b cs _ => step_seq) (ih _ h)
    · rename_i c t e k
      split at h
      · rename_i q hq
        have hc := opnd_ok hs hg c
        rw [hq] at hc
        have hc : a.eval c = .bool q := hc
        cases q with
        | true => exact Runs.step (fun b cs _ => step_cond hc) (ih _ h)
        | false => exact Runs.step (fun b cs _ => step_cond hc) (ih _ h)
      · cases h
    · exact Runs.step (fun b cs _ => step_block) (ih _ h)
    · exact Runs.step (fun b cs _ => step_loop) (ih _ h)
    · exact Runs.step (fun b cs _ => step_inLoop) (ih _ h)
    · split at h
      · rename_i k' hk'
        exact Runs.step (fun b cs _ => step_exit hk') (ih _ h)
      · cases h
    · rename_i id ops draw k
      have hplain : regionK E call (fun gi args H fin => inlOf false gi.fn.body fun c => steps E call n none gi [.code c] (entry gi args) H fin) ops ts H draw (fun ts H => steps E call n goto fi k ts H fin) = some x → Runs P f (.code (.region id ops draw) :: k) a w R := by
        intro h
        refine Runs.region (Post := fun a' w' => Runs P f k a' w' R) (region_ok hE hfi hmix hcall ?_ h hs hg fun ts' H' a' w' F' g' k1 k2 k3 k4 => ?_) (fun _ _ h => h)
        · intro B' f' fi' args H K y F g w vs hf' hi hargs hH hB' hgl
          obtain ⟨e1, e2, e3⟩ := hfi.1 f' fi' hf'
          cases hbody : fi'.fn.body with
          | none => rw [hbody] at e2; cases e2
          | some c =>
            simp only [hbody, inlOf] at hi
            refine Runs.calls e1 hbody ?_
            have hst : St B' F g w H (entry fi' args) { tmps := vs ++ Array.replicate (fi'.fn.ntmps - vs.size) undef, defers := [] } := by
              refine ⟨?_, hH, hB', rfl⟩
              have hl : args.length = vs.size := by rw [hargs.length]; simp
              simp only [entry, Array.toList_append, Array.toList_replicate, hl]
              exact hargs.append (All2.replicate (a := AV.top) (b := undef) trivial _)
            exact steps_ok hE hfi hmix hcall B' n y none f' fi' _ _ H K _ F g w _ (fun F' g' w' => Gr B' F g w F' g' w') e1 hi hst hgl (Gr.refl ..) (fun _ _ _ _ _ _ h1 h2 => h1.trans h2) (fun h => by cases h)
              (fun σ H' v F' g' w' q1 q2 q3 q4 => ⟨v, σ, H', F', g', rfl, q1, q2, q3, q4⟩) (fun gt h => by cases h)
        · exact steps_ok hE hfi hmix hcall B n x goto f fi k ts' H' fin a' F' g' w' R Base hf k1 k2 k3 (hB _ _ _ _ _ _ hb k4) hB hcut hfin hgoto
      cases hgo : goto with
      | none =>
        subst hgo
        exact hplain h
      | some gt =>
        subst hgo
        cases hlk : fi.cuts.lookup id with
        | none =>
          simp only [hlk] at h
          exact hplain h
        | some la =>
          obtain ⟨live, as⟩ := la
          simp only [hlk] at h
          obtain ⟨ts', H', F', g', h1, h2, h3, h4⟩ := goCut_ok h hs
          have hb' : Base F' g' w := hcut rfl _ _ _ _ _ hb h3 h4
          exact hgoto gt rfl _ _ _ _ _ _ _ h1 h2 (hg.gr (g := []) (g' := []) h3) hb'
    · cases h
end
end Go.Proofs.YtmojilihllhadaaGreatDoor.Ev
/- What a call hands back: results for reading. -/
namespace Go.Proofs.YtmojilihllhadaaGreatDoor.Ev
open Go Go.RowKit
set_option linter.unusedVariables false
set_option linter.unusedSimpArgs false
section
variable {P : Program} {E : Env} {B : Nat → Prop} {F : Fz} {g : List GE} {w : World} {H : Hp}
theorem toAV_ok {t : Ty} {x : t.den} {v : AV} {u : Value} (hs : solid v = true) (hsh : shapeOk t v = true) (hv : VR1 F w g v u) {F' : Fz} {g' : List GE} (h : CR F' w t x u.cells.toList) : VR1 F' w g' (toAV t x) u := by
  have hleaf : (∀ cs, v ≠ .agg cs) → u.cells = #[u] := by
    intro hn
    have hs0 : solid0 v = true := by cases v <;> first | exact hs | exact absurd rfl (hn _)
    exact oneCell_cells (solid0_cell hs0 hv)
  cases t with
  | st t =>
    cases v <;> simp only [shapeOk] at hsh <;> try (cases hsh; done)
    obtain ⟨vs, rfl, _⟩ := hv
    exact ⟨vs, rfl, explode_ok t x _ h⟩
  | int k =>
    rw [hleaf (by rintro cs rfl; cases hsh)] at h
    simp only [CR, List.cons.injEq, and_true] at h
    exact h
  | bool =>
    rw [hleaf (by rintro cs rfl; cases hsh)] at h
    simp only [CR, List.cons.injEq, and_true] at h
    exact h
  | str =>
    rw [hleaf (by rintro cs rfl; cases hsh)] at h
    simp only [CR, List.cons.injEq, and_true] at h
    exact h
  | sl t =>
    rw [hleaf (by rintro cs rfl; cases hsh)] at h
    exact h
  | unit => trivial
  | pair a b => trivial
theorem asTy_sol {t : Ty} {v : AV} {x : t.den} (h : asTy H t v = some x) : solid v = true ∧ shapeOk t v = true := by
  unfold asTy at h
  split at h
  · rename_i hs _; simpa using hs
  · cases h
theorem asTy_val {t : Ty} {v : AV} {u : Value} {x : t.den} {ids : List Nat} (h : asTy H t v = some x) (hv : VR1 F w g v u) (hH : HR B F w g H) (hi : ∀ i ∈ ownIds (cellsOf v), i ∈ ids) {g' : List GE} :
    VR1 (lendF F g H ids) w g' (toAV t x) u := by
  obtain ⟨h1, h2⟩ := asTy_sol h
  exact toAV_ok h1 h2 hv (CR_lend hi (asTy_ok h hv hH))
theorem decTup_ok (hH : HR B F w g H) (ids : List Nat) {g' : List GE} : (ts : List Ty) → (vs : List AV) → (x : (retTy ts).den) → (us : List Value) → decTup H ts vs = some x → All2 (VR1 F w g) vs us →
    (∀ v ∈ vs, ∀ i ∈ ownIds (cellsOf v), i ∈ ids) → All2 (VR1 (lendF F g H ids) w g') (retVals false ts x 0).1 us
  | [], [], x, us, h, hv, _ => by cases hv; exact .nil
  | [], v :: vs, x, us, h, hv, _ => by cases h
  | [t], [v], x, us, h, hv, hi => by
    cases hv with
    | cons h1 h2 =>
      cases h2
      exact .cons (asTy_val h h1 hH (hi v (by simp))) .nil
  | [t], [], x, us, h, hv, _ => by cases h
  | [t], v :: v' :: vs, x, us, h, hv, _ => by simp [decTup] at h
  | t :: u :: ts, [], x, us, h, hv, _ => by cases h
  | t :: u :: ts, v :: vs, x, us, h, hv, hi => by
    cases hv with
    | cons h1 h2 =>
      simp only [decTup] at h
      split at h
      · rename_i y hy
        split at h
        · rename_i z hz
          cases h
          exact .cons (asTy_val hy h1 hH (hi v (by simp))) (decTup_ok hH ids (u :: ts) vs z _ hz h2 fun v' hv' => hi v' (by simp [hv']))
        · cases h
      · cases h
theorem ownIds_flat {vs : List AV} {v : AV} {i : Nat} (hv : v ∈ vs) (hi : i ∈ ownIds (cellsOf v)) : i ∈ ownIds (vs.flatMap cellsOf) := by
  unfold ownIds at hi ⊢
  obtain ⟨c, h1, h2⟩ := List.mem_filterMap.1 hi
  exact List.mem_filterMap.2 ⟨c, List.mem_flatMap.2 ⟨v, hv, h1⟩, h2⟩
theorem decRet_ok (hH : HR B F w g H) {ts : List Ty} {v : AV} {u : Value} {x : (retTy ts).den} (h : decRet ts (v, H) = some x) (hv : VR2 F w g v u) {g' : List GE} :
    VR2 (lendF F g H (ownIds (retCells v))) w g' (one (retVals false ts x 0).1) u := by
  match ts, x, h with
  | [t], x, h =>
    have h : asTy H t v = some x := h
    have hcs : retCells v = cellsOf v := by
      have := (asTy_sol h).1
      cases v <;> first | rfl | (cases this; done)
    rw [hcs]
    exact VR1_2 (asTy_val h (VR2_sol hv (asTy_sol h).1) hH fun i hi => hi)
  | [], x, h =>
    cases v with
    | tup vs =>
      obtain ⟨us, rfl, hall⟩ := hv
      refine ⟨us, rfl, ?_⟩
      exact decTup_ok hH _ [] vs x _ h hall fun v hv i hi => ownIds_flat hv hi
    | _ => simp [decRet] at h
  | t :: t' :: ts, x, h =>
    cases v with
    | tup vs =>
      obtain ⟨us, rfl, hall⟩ := hv
      have := decTup_ok (g' := g') hH (ownIds (vs.flatMap cellsOf)) (t :: t' :: ts) vs x _ h hall fun v hv i hi => ownIds_flat hv hi
      cases ts with
      | nil => exact ⟨us, rfl, this⟩
      | cons a b => exact ⟨us, rfl, this⟩
    | _ => simp [decRet] at h
end
end Go.Proofs.YtmojilihllhadaaGreatDoor.Ev
/- What a call hands back: results that are the caller's own from then on. -/
namespace Go.Proofs.YtmojilihllhadaaGreatDoor.Ev
open Go Go.RowKit
set_option linter.unusedVariables false
set_option linter.unusedSimpArgs false
section
variable {P : Program} {E : Env} {B : Nat → Prop} {F : Fz} {g : List GE} {w : World} {H : Hp}
inductive SrcL (F : Fz) (w : World) (g : List GE) (H : Hp) : List Nat → List GE → Hp → Prop where
  | nil : SrcL F w g H [] [] []
  | emp {e : GE} {t : Ty} {ids gs bs} : e.cap = 0 → BR F w [] e (.arr t [] false) → SrcL F w g H ids gs bs → SrcL F w g H ids (e :: gs) (.arr t [] false :: bs)
  | id {e e0 : GE} {t : Ty} {l : List t.den} {b0 : Blk} {i : Nat} {ids gs bs} : g[i]? = some e0 → H[i]? = some b0 → (0 < e.cap → Real b0 e0 ∧ e.ad.block = e0.ad.block) →
      BR F w [] e (.arr t l false) → SrcL F w g H ids gs bs → SrcL F w g H (i :: ids) (e :: gs) (.arr t l false :: bs)
  | var {e : GE} {T : TypeId} {cs cs' : List AV} {i : Nat} {ids gs bs} : g[i]? = some e → H[i]? = some (.var T cs) → SrcL F w g H ids gs bs → SrcL F w g H (i :: ids) (e :: gs) (.var T cs' :: bs)
theorem SrcL.append {ids ids' gs gs' bs bs'} (h : SrcL F w g H ids gs bs) (k : SrcL F w g H ids' gs' bs') : SrcL F w g H (ids ++ ids') (gs ++ gs') (bs ++ bs') := by
  induction h with
  | nil => exact k
  | emp h1 h2 _ ih => exact .emp h1 h2 ih
  | id h1 h2 h3 h4 _ ih => exact .id h1 h2 h3 h4 ih
  | var h1 h2 _ ih => exact .var h1 h2 ih
theorem SrcL.len {ids gs bs} (h : SrcL F w g H ids gs bs) : gs.length = bs.length := by
  induction h with
  | nil => rfl
  | emp _ _ _ ih => simp [ih]
  | id _ _ _ _ _ ih => simp [ih]
  | var _ _ _ ih => simp [ih]
theorem SrcL.get {ids gs bs} (h : SrcL F w g H ids gs bs) : ∀ (j : Nat) (b : Blk) (e : GE), bs[j]? = some b → gs[j]? = some e →
    ((BR F w [] e b ∧ ∃ t l, b = .arr t l false) ∨ ∃ T cs, b = .var T cs) ∧ (Real b e → ∃ i ∈ ids, ∃ e0 b0, g[i]? = some e0 ∧ H[i]? = some b0 ∧ Real b0 e0 ∧ e.ad.block = e0.ad.block) := by
  induction h with
  | nil => intro j b e h; simp at h
  | emp h1 h2 _ ih =>
    intro j b e hb he
    cases j with
    | zero =>
      simp at hb he; subst hb; subst he
      exact ⟨.inl ⟨h2, ⟨_, _, rfl⟩⟩, fun h => by have h : 0 < _ := h; omega⟩
    | succ j => exact ih j b e (by simpa using hb) (by simpa using he)
  | id h1 h2 h3 h4 _ ih =>
    intro j b e hb he
    cases j with
    | zero =>
      simp at hb he; subst hb; subst he
      exact ⟨.inl ⟨h4, ⟨_, _, rfl⟩⟩, fun h => ⟨_, by simp, _, _, h1, h2, h3 h⟩⟩
    | succ j =>
      obtain ⟨k1, k3⟩ := ih j b e (by simpa using hb) (by simpa using he)
      exact ⟨k1, fun h => let ⟨i, hi, r⟩ := k3 h; ⟨i, by simp [hi], r⟩⟩
  | var h1 h2 _ ih =>
    intro j b e hb he
    cases j with
    | zero =>
      simp at hb he; subst hb; subst he
      exact ⟨.inr ⟨_, _, rfl⟩, fun h => ⟨_, by simp, _, _, h1, h2, trivial, rfl⟩⟩
    | succ j =>
      obtain ⟨k1, k3⟩ := ih j b e (by simpa using hb) (by simpa using he)
      exact ⟨k1, fun h => let ⟨i, hi, r⟩ := k3 h; ⟨i, by simp [hi], r⟩⟩
theorem SrcL.sep1 {ids gs bs} (hH : HR B F w g H) (hs : SrcL F w g H ids gs bs) {i : Nat} (hn : i ∉ ids) {e e0 : GE} {b0 : Blk} (h1 : g[i]? = some e0) (h2 : H[i]? = some b0) (h3 : Real b0 e0 ∧ e.ad.block = e0.ad.block)
    {k : Nat} {c : Blk} {e' : GE} (hc : bs[k]? = some c) (hf : gs[k]? = some e') (hr : Real c e') : e.ad.block ≠ e'.ad.block := by
  obtain ⟨_, k3⟩ := hs.get k c e' hc hf
  obtain ⟨i', hi', f0, c0, q1, q2, q3, q4⟩ := k3 hr
  rw [h3.2, q4]
  exact hH.sep i i' _ _ _ _ h2 q2 h1 q1 h3.1 q3 (fun e => hn (e ▸ hi'))
theorem SrcL.sep {ids gs bs} (hH : HR B F w g H) (h : SrcL F w g H ids gs bs) (hn : ids.Nodup) : ∀ (j k : Nat) (b c : Blk) (e f : GE), bs[j]? = some b → bs[k]? = some c → gs[j]? = some e → gs[k]? = some f → Real b e → Real c f → j ≠ k →
    e.ad.block ≠ f.ad.block := by
  induction h with
  | nil => intro j k b c e f h; simp at h
  | emp h1 h2 hs ih =>
    intro j k b c e f hb hc he hf hpe hpf hjk
    cases j with
    | zero => simp at he hb; subst he; subst hb; have hpe : 0 < _ := hpe; omega
    | succ j =>
      cases k with
      | zero => simp at hf hc; subst hf; subst hc; have hpf : 0 < _ := hpf; omega
      | succ k => exact ih hn j k b c e f (by simpa using hb) (by simpa using hc) (by simpa using he) (by simpa using hf) hpe hpf (by omega)
  | id h1 h2 h3 h4 hs ih =>
    rw [List.nodup_cons] at hn
    intro j k b c e f hb hc he hf hpe hpf hjk
    cases j with
    | zero =>
      cases k with
      | zero => exact absurd rfl hjk
      | succ k =>
        simp at he hb; subst he; subst hb
        exact hs.sep1 hH hn.1 h1 h2 (h3 hpe) (by simpa using hc) (by simpa using hf) hpf
    | succ j =>
      cases k with
      | zero =>
        simp at hf hc; subst hf; subst hc
        exact (hs.sep1 hH hn.1 h1 h2 (h3 hpf) (by simpa using hb) (by simpa using he) hpe).symm
      | succ k => exact ih hn.2 j k b c e f (by simpa using hb) (by simpa using hc) (by simpa using he) (by simpa using hf) hpe hpf (by omega)
  | var h1 h2 hs ih =>
    rw [List.nodup_cons] at hn
    intro j k b c e f hb hc he hf hpe hpf hjk
    cases j with
    | zero =>
      cases k with
      | zero => exact absurd rfl hjk
      | succ k =>
        simp at he hb; subst he; subst hb
        exact hs.sep1 hH hn.1 h1 h2 ⟨trivial, rfl⟩ (by simpa using hc) (by simpa using hf) hpf
    | succ j =>
      cases k with
      | zero =>
        simp at hf hc; subst hf; subst hc
        exact (hs.sep1 hH hn.1 h1 h2 ⟨trivial, rfl⟩ (by simpa using hb) (by simpa using he) hpe).symm
      | succ k => exact ih hn.2 j k b c e f (by simpa using hb) (by simpa using hc) (by simpa using he) (by simpa using hf) hpe hpf (by omega)
theorem src_HR {ids gs bs} (hH : HR B F w g H) (h : SrcL F w g H ids gs bs) (hn : ids.Nodup) (hl : ∀ i ∈ ids, ∀ t l, H[i]? ≠ some (.arr t l true))
    (hvar : ∀ (j : Nat) T cs e, bs[j]? = some (.var T cs) → gs[j]? = some e → BR F w gs e (.var T cs)) : HR B F w gs bs := by
  refine ⟨h.len, fun i b e hb he => ?_, fun i b e hb he hr => ?_, fun i j b c e f hb hc he hf hr hs hij => ?_, fun k o hk => ⟨(hH.frz k o hk).1, fun i b e hb he hr hbk => ?_⟩⟩
  · rcases (h.get i b e hb he).1 with ⟨k1, t, l, rfl⟩ | ⟨T, cs, rfl⟩
    · exact k1
    · exact hvar i T cs e hb he
  · obtain ⟨i', _, e0, b0, q1, q2, q3, q4⟩ := (h.get i b e hb he).2 hr
    rw [q4]
    exact hH.own i' _ e0 q2 q1 q3
  · exact h.sep hH hn i j _ _ e f hb hc he hf hr hs hij
  · obtain ⟨i', hi', e0, b0, q1, q2, q3, q4⟩ := (h.get i b e hb he).2 hr
    obtain ⟨t1, l1, r1, r2⟩ := (hH.frz k o hk).2 i' _ e0 q2 q1 q3 (by rw [← q4, hbk])
    subst r1
    exact absurd q2 (hl i' hi' _ _)
theorem own_slice (hH : HR B F w g H) {t : Ty} {v : AV} {u : Value} {l : List t.den} (ha : asSl H t v = some l) (hv : VR0 F w g v u) (hn : ∀ t l, v ≠ .sl t l) :
    ∃ e, SrcL F w g H (ownIds [v]) [e] [.arr t l false] ∧ ∀ G1 G2, VR0 F w (G1 ++ e :: G2) (.all G1.length t.size l.length) u := by
  have hget : ∀ (G1 G2 : List GE) (e : GE), (G1 ++ e :: G2)[G1.length]? = some e := by intro G1 G2 e; simp
  cases v with
  | sl t' l' => exact absurd rfl (hn t' l')
  | emp =>
    obtain ⟨A, rfl⟩ := hv
    cases ha
    refine ⟨⟨⟨0, 0, none⟩, t.size, 0, 0⟩, .emp rfl ⟨rfl, rfl, Nat.le_refl _, rfl, fun h => absurd h (Nat.lt_irrefl _)⟩ .nil, fun G1 G2 => ⟨_, A, hget _ _ _, rfl, rfl, rfl, rfl, fun h => absurd h (Nat.lt_irrefl _), Nat.le_refl _⟩⟩
  | all id sz n =>
    obtain ⟨e, A, h1, h2, h3, h4, rfl, h6, h7⟩ := hv
    simp only [asSl] at ha
    split at ha
    · rename_i t' l' s hb
      have : t' = t := by unfold castL? at ha; split at ha <;> simp_all
      subst this
      rw [asSl_cast] at ha
      cases ha
      have hbr := hH.blk id _ e hb h1
      have hbr' : BR F w [] e (.arr t' l' false) := hbr
      obtain ⟨b1, b2, b3, b4, b5⟩ := hbr
      refine ⟨e, .id h1 hb (fun h => ⟨h, rfl⟩) hbr' .nil, fun G1 G2 => ⟨e, A, hget _ _ _, b2, b1, h4, ?_, h6, ?_⟩⟩
      · rw [← b2, h2]
      · rw [← b2, h2]; exact h7
    · cases ha
  | own id sz off n =>
    obtain ⟨e, A, h1, h2, h3, h4, rfl, h6⟩ := hv
    simp only [asSl] at ha
    split at ha
    · rename_i t' l' s hb
      have : t' = t := by unfold castL? at ha; split at ha <;> simp_all
      subst this
      rw [asSl_cast] at ha
      cases ha
      obtain ⟨b1, b2, b3, b4, b5⟩ := hH.blk id _ e hb h1
      have hlen : ((l'.drop off).take n).length = n := by simp; omega
      refine ⟨⟨⟨e.ad.block, e.ad.off + off * e.sz, none⟩, t'.size, e.cap - off, n⟩, .id h1 hb (fun h => ?_) ⟨rfl, hlen.symm, ?_, rfl, fun h => ?_⟩ .nil, fun G1 G2 => ⟨_, A, hget _ _ _, hlen.symm, rfl, rfl, by rw [hlen], fun h => h6 h, by rw [hlen]; show n ≤ e.cap - off; omega⟩⟩
      · have h : 0 < e.cap - off := h
        exact ⟨(by omega : 0 < e.cap), rfl⟩
      · rw [hlen]; show n ≤ e.cap - off; omega
      · have h : 0 < e.cap - off := h
        obtain ⟨vs, el, c1, ku, c2, c3⟩ := b5 (by omega)
        refine ⟨vs, el, c1, ku, ?_, fun i x hx => ?_⟩
        · show e.ad.off + off * e.sz + (e.cap - off) * t'.size ≤ vs.size
          rw [b1, Nat.add_assoc, ← Nat.add_mul, show off + (e.cap - off) = e.cap by omega]
          exact c2
        · have hx' : l'[off + i]? = some x := by
            rw [List.getElem?_take] at hx
            split at hx
            · rw [List.getElem?_drop] at hx; exact hx
            · cases hx
          obtain ⟨us, d1, d2⟩ := c3 (off + i) x hx'
          refine ⟨us, d1, fun j u hj => ?_⟩
          have := d2 j u hj
          show vs[e.ad.off + off * e.sz + (i * t'.size + j)]? = some u
          rw [b1, ← this, Nat.add_mul]
          congr 1
          omega
    · cases ha
  | _ => cases ha
theorem own_cells (hH : HR B F w g H) : (t : Ty) → (cs : List AV) → (x : t.den) → (r : List AV) → (us : List Value) → (b : Nat) → collapse H t cs = some (x, r) → All2 (VR0 F w g) cs us → (∀ v ∈ cs, ∀ t l, v ≠ .sl t l) →
    ∃ us1 us2 gs ids, us = us1 ++ us2 ∧ All2 (VR0 F w g) r us2 ∧ (∀ v ∈ r, v ∈ cs) ∧ ownIds cs = ids ++ ownIds r ∧ SrcL F w g H ids gs (ownCells t x b).2 ∧
      ∀ G1 G2, G1.length = b → All2 (VR0 F w (G1 ++ gs ++ G2)) (ownCells t x b).1 us1
  | .int k, cs, x, r, us, b, h, hv, hn => by
    cases hv with
    | nil => cases h
    | cons h1 h2 =>
      rename_i v u l m
      cases v with
      | int k' y =>
        simp only [collapse] at h
        split at h
        · rename_i hk; subst hk
          cases h
          exact ⟨[u], m, [], [], rfl, h2, fun v hv => by simp [hv], rfl, .nil, fun G1 G2 _ => .cons h1 .nil⟩
        · cases h
      | _ => cases h
  | .bool, cs, x, r, us, b, h, hv, hn => by
    cases hv with
    | nil => cases h
    | cons h1 h2 =>
      rename_i v u l m
      cases v with
      | bool y =>
        cases h
        exact ⟨[u], m, [], [], rfl, h2, fun v hv => by simp [hv], rfl, .nil, fun G1 G2 _ => .cons h1 .nil⟩
      | _ => cases h
  | .str, cs, x, r, us, b, h, hv, hn => by
    cases hv with
    | nil => cases h
    | cons h1 h2 =>
      rename_i v u l m
      cases v with
      | str y =>
        cases h
        exact ⟨[u], m, [], [], rfl, h2, fun v hv => by simp [hv], rfl, .nil, fun G1 G2 _ => .cons h1 .nil⟩
      | _ => cases h
  | .unit, cs, x, r, us, b, h, hv, hn => by
    have : cs = r := by cases cs <;> (cases h; rfl)
    subst this
    exact ⟨[], us, [], [], rfl, hv, fun v hv => hv, rfl, .nil, fun G1 G2 _ => .nil⟩
  | .sl t, cs, x, r, us, b, h, hv, hn => by
    cases hv with
    | nil => cases h
    | cons h1 h2 =>
      rename_i v u l m
      simp only [collapse] at h
      split at h
      · rename_i y hy
        cases h
        obtain ⟨e, k1, k2⟩ := own_slice hH hy h1 (hn v (by simp))
        exact ⟨[u], m, [e], ownIds [v], rfl, h2, fun v hv => by simp [hv], ownIds_cons v r, k1, fun G1 G2 hb => by
          subst hb
          simp only [List.append_assoc, List.singleton_append]
          exact .cons (k2 G1 G2) .nil⟩
      · cases h
  | .st t, cs, x, r, us, b, h, hv, hn => own_cells hH t cs x r us b (by simpa only [collapse] using h) hv hn
  | .pair s t, cs, x, r, us, b, h, hv, hn => by
    simp only [collapse] at h
    split at h
    · rename_i y r1 h1
      split at h
      · rename_i z r2 h2
        cases h
        obtain ⟨us1, us2, gs, ids, rfl, k1, k2, k3, k4, k5⟩ := own_cells hH s cs y r1 us b h1 hv hn
        obtain ⟨us3, us4, gs', ids', rfl, q1, q2, q3, q4, q5⟩ := own_cells hH t r1 z _ us2 (b + (ownCells s y b).2.length) h2 k1 fun v hv => hn v (k2 v hv)
        refine ⟨us1 ++ us3, us4, gs ++ gs', ids ++ ids', by simp, q1, fun v hv => k2 v (q2 v hv), by rw [k3, q3, List.append_assoc], k4.append q4, fun G1 G2 hb => ?_⟩
        have e1 : G1 ++ (gs ++ gs') ++ G2 = G1 ++ gs ++ (gs' ++ G2) := by simp
        have e2 : G1 ++ (gs ++ gs') ++ G2 = (G1 ++ gs) ++ gs' ++ G2 := by simp
        refine All2.append ?_ ?_
        · rw [e1]; exact k5 G1 _ hb
        · rw [e2]; exact q5 (G1 ++ gs) G2 (by simp [hb, k4.len])
      · cases h
    · cases h
theorem own_val (hH : HR B F w g H) {t : Ty} {v : AV} {x : t.den} {u : Value} (b : Nat) (h : asTy H t v = some x) (hv : VR1 F w g v u) (hn : ∀ v' ∈ cellsOf v, ∀ t l, v' ≠ .sl t l) :
    ∃ gs ids, ids.Sublist (ownIds (cellsOf v)) ∧ SrcL F w g H ids gs (ownVal t x b).2 ∧ ∀ G1 G2, G1.length = b → VR1 F w (G1 ++ gs ++ G2) (ownVal t x b).1 u := by
  obtain ⟨hs, hsh⟩ := asTy_sol h
  have hcells := (solid_cells hs hv).1
  have hcol : collapse H t (cellsOf v) = some (x, []) := by
    unfold asTy at h
    split at h
    · rename_i hc; cases h; exact hc
    · cases h
  obtain ⟨us1, us2, gs, ids, e1, k1, k2, k3, k4, k5⟩ := own_cells hH t (cellsOf v) x [] _ b hcol hcells hn
  cases k1
  rw [List.append_nil] at e1
  have k3 : ownIds (cellsOf v) = ids := by rw [k3]; simp [ownIds]
  have hleaf : (∀ cs, v ≠ .agg cs) → u.cells = #[u] := by
    intro hn
    have hs0 : solid0 v = true := by cases v <;> first | exact hs | exact absurd rfl (hn _)
    exact oneCell_cells (solid0_cell hs0 hv)
  have hone : ∀ {y : AV} {G : List GE}, (∀ cs, v ≠ .agg cs) → All2 (VR0 F w G) [y] us1 → VR0 F w G y u := by
    intro y G hn' ha
    rw [← e1, hleaf hn'] at ha
    cases ha with
    | cons h _ => exact h
  cases t with
  | st t =>
    cases v <;> simp only [shapeOk] at hsh <;> try (cases hsh; done)
    obtain ⟨vs, rfl, _⟩ := hv
    refine ⟨gs, ids, by rw [k3]; exact List.Sublist.refl _, k4, fun G1 G2 hb => ⟨vs, rfl, ?_⟩⟩
    have e1 : vs.toList = us1 := e1
    rw [e1]
    exact k5 G1 G2 hb
  | sl t => exact ⟨gs, ids, by rw [k3]; exact List.Sublist.refl _, k4, fun G1 G2 hb => hone (by rintro cs rfl; cases hsh) (k5 G1 G2 hb)⟩
  | int k => exact ⟨gs, ids, by rw [k3]; exact List.Sublist.refl _, k4, fun G1 G2 hb => hone (by rintro cs rfl; cases hsh) (k5 G1 G2 hb)⟩
  | bool => exact ⟨gs, ids, by rw [k3]; exact List.Sublist.refl _, k4, fun G1 G2 hb => hone (by rintro cs rfl; cases hsh) (k5 G1 G2 hb)⟩
  | str => exact ⟨gs, ids, by rw [k3]; exact List.Sublist.refl _, k4, fun G1 G2 hb => hone (by rintro cs rfl; cases hsh) (k5 G1 G2 hb)⟩
  | unit => exact ⟨[], [], List.nil_sublist _, .nil, fun G1 G2 hb => trivial⟩
  | pair a b => exact ⟨[], [], List.nil_sublist _, .nil, fun G1 G2 hb => trivial⟩
theorem own_tup (hH : HR B F w g H) : (ts : List Ty) → (vs : List AV) → (x : (retTy ts).den) → (us : List Value) → (b : Nat) → decTup H ts vs = some x → All2 (VR1 F w g) vs us → (∀ v ∈ vs, ∀ v' ∈ cellsOf v, ∀ t l, v' ≠ .sl t l) →
    ∃ gs ids, ids.Sublist (ownIds (vs.flatMap cellsOf)) ∧ SrcL F w g H ids gs (retVals true ts x b).2 ∧ ∀ G1 G2, G1.length = b → All2 (VR1 F w (G1 ++ gs ++ G2)) (retVals true ts x b).1 us
  | [], [], x, us, b, h, hv, _ => by cases hv; exact ⟨[], [], List.nil_sublist _, .nil, fun _ _ _ => .nil⟩
  | [], v :: vs, x, us, b, h, hv, _ => by cases h
  | [t], [v], x, us, b, h, hv, hn => by
    cases hv with
    | cons h1 h2 =>
      cases h2
      obtain ⟨gs, ids, k1, k2, k3⟩ := own_val hH b h h1 (hn v (by simp))
      exact ⟨gs, ids, by simpa using k1, k2, fun G1 G2 hb => .cons (k3 G1 G2 hb) .nil⟩
  | [t], [], x, us, b, h, hv, _ => by cases h
  | [t], v :: v' :: vs, x, us, b, h, hv, _ => by simp [decTup] at h
  | t :: u :: ts, [], x, us, b, h, hv, _ => by cases h
  | t :: u :: ts, v :: vs, x, us, b, h, hv, hn => by
    cases hv with
    | cons h1 h2 =>
      simp only [decTup] at h
      split at h
      · rename_i y hy
        split at h
        · rename_i z hz
          cases h
          obtain ⟨gs, ids, k1, k2, k3⟩ := own_val hH b hy h1 (hn v (by simp))
          obtain ⟨gs', ids', q1, q2, q3⟩ := own_tup hH (u :: ts) vs z _ (b + (ownVal t y b).2.length) hz h2 fun v' hv' => hn v' (by simp [hv'])
          refine ⟨gs ++ gs', ids ++ ids', ?_, k2.append q2, fun G1 G2 hb => ?_⟩
          · rw [List.flatMap_cons, ownIds_append]; exact k1.append q1
          · have e1 : G1 ++ (gs ++ gs') ++ G2 = G1 ++ gs ++ (gs' ++ G2) := by simp
            have e2 : G1 ++ (gs ++ gs') ++ G2 = (G1 ++ gs) ++ gs' ++ G2 := by simp
            refine .cons ?_ ?_
            · rw [e1]; exact k3 G1 _ hb
            · rw [e2]; exact q3 (G1 ++ gs) G2 (by simp [hb, k2.len])
        · cases h
      · cases h
theorem ownOk_cells {v : AV} : ownOk H v = ((ownIds (retCells v)).all (fun id => match H[id]? with | some (.arr _ _ false) => true | _ => false) && (ownIds (retCells v)).length == (addNew [] (ownIds (retCells v))).length &&
    (retCells v).all (fun | .sl .. => false | _ => true)) := by cases v <;> rfl
theorem bk_cells (hH : HR B F w g H) : (fs : List (Ty × Bool)) → (cs : List AV) → (x : (cellTy fs).den) → (us : List Value) → (b : Nat) → flagsOk fs cs = true → collapse H (cellTy fs) cs = some (x, []) → All2 (VR0 F w g) cs us →
    ∃ gs, SrcL F w g H (ownIds cs) gs (bkCells fs x b).2 ∧ ∀ G1 G2, G1.length = b → All2 (VR0 F w (G1 ++ gs ++ G2)) (bkCells fs x b).1 us
  | [], cs, x, us, b, hf, h, hv => by
    cases cs with
    | cons c r => cases hf
    | nil => cases hv; exact ⟨[], .nil, fun _ _ _ => .nil⟩
  | (t, o) :: r, [], x, us, b, hf, h, hv => by cases hf
  | (t, o) :: r, c :: cs, x, us, b, hf, h, hv => by
    cases hv with
    | cons h1 h2 =>
      rename_i u m
      simp only [flagsOk, Bool.and_eq_true] at hf
      obtain ⟨hf1, hf2⟩ := hf
      simp only [cellTy, collapse] at h
      have hone : ∀ y r', collapse H t (c :: cs) = some (y, r') → r' = cs ∧ collapse H t [c] = some (y, []) := by
        intro y r' hy
        cases t with
        | int k =>
          cases c <;> simp only [collapse] at hy ⊢ <;> try (cases hy; done)
          split at hy
          · rename_i hk; subst hk; cases hy; exact ⟨rfl, by simp⟩
          · cases hy
        | bool => cases c <;> simp only [collapse] at hy ⊢ <;> first | (cases hy; done) | (cases hy; exact ⟨rfl, rfl⟩)
        | str => cases c <;> simp only [collapse] at hy ⊢ <;> first | (cases hy; done) | (cases hy; exact ⟨rfl, rfl⟩)
        | sl t =>
          simp only [collapse] at hy ⊢
          split at hy
          · rename_i l hl; cases hy; exact ⟨rfl, rfl⟩
          · cases hy
        | unit => simp at hf1
        | pair _ _ => simp at hf1
        | st _ => simp at hf1
      split at h
      · rename_i y r1 hy
        obtain ⟨rfl, hy'⟩ := hone y r1 hy
        split at h
        · rename_i z r2 hz
          cases h
          rw [ownIds_cons]
          cases o with
          | true =>
            have hn : ∀ v ∈ [c], ∀ t l, v ≠ .sl t l := by
              rintro v hv t' l rfl
              simp only [List.mem_singleton] at hv
              subst hv
              cases t <;> simp at hf1
            obtain ⟨us1, us2, gs, ids, e1, k1, _, k3, k4, k5⟩ := own_cells hH t [c] y [] [u] b hy' (.cons h1 .nil) hn
            cases k1
            rw [List.append_nil] at e1
            subst e1
            have k3 : ownIds [c] = ids := by rw [k3]; simp [ownIds]
            subst k3
            obtain ⟨gs', q1, q2⟩ := bk_cells hH r _ z m (b + (ownCells t y b).2.length) hf2 hz h2
            refine ⟨gs ++ gs', k4.append q1, fun G1 G2 hb => ?_⟩
            have e1 : G1 ++ (gs ++ gs') ++ G2 = G1 ++ gs ++ (gs' ++ G2) := by simp
            have e2 : G1 ++ (gs ++ gs') ++ G2 = (G1 ++ gs) ++ gs' ++ G2 := by simp
            refine All2.append (m := [u]) ?_ ?_
            · rw [e1]; exact k5 G1 _ hb
            · rw [e2]; exact q2 (G1 ++ gs) G2 (by simp [hb, k4.len])
          | false =>
            obtain ⟨gs', q1, q2⟩ := bk_cells hH r _ z m b hf2 hz h2
            have hx : ownIds [c] = [] ∧ ∀ G, All2 (VR0 F w G) (explode t y) [u] := by
              cases t with
              | int k =>
                cases c <;> simp only [collapse] at hy' <;> try (cases hy'; done)
                split at hy'
                · rename_i hk; subst hk; cases hy'; exact ⟨rfl, fun G => .cons h1 .nil⟩
                · cases hy'
              | bool => cases c <;> simp only [collapse] at hy' <;> first | (cases hy'; done) | (cases hy'; exact ⟨rfl, fun G => .cons h1 .nil⟩)
              | str => cases c <;> simp only [collapse] at hy' <;> first | (cases hy'; done) | (cases hy'; exact ⟨rfl, fun G => .cons h1 .nil⟩)
              | sl t =>
                cases c <;> simp at hf1
                rename_i t' l
                simp only [collapse, asSl] at hy'
                split at hy'
                · rename_i l' hl
                  cases hy'
                  have : t' = t := by unfold castL? at hl; split at hl <;> simp_all
                  subst this
                  rw [asSl_cast] at hl
                  cases hl
                  exact ⟨rfl, fun G => .cons h1 .nil⟩
                · cases hy'
              | unit => simp at hf1
              | pair _ _ => simp at hf1
              | st _ => simp at hf1
            rw [hx.1]
            exact ⟨gs', q1, fun G1 G2 hb => All2.append (m := [u]) (hx.2 _) (q2 G1 G2 hb)⟩
        · cases h
      · cases h
theorem one_part (hH : HR B F w g H) (k : Bk) (x : (bkTy k).den) (j b : Nat) (e : GE) (hd : decOne H j k = some x) (he : g[j]? = some e) :
    SrcL F w g H [j] [e] [(bkOne k x b).1] ∧ (∀ t l, H[j]? ≠ some (.arr t l true)) ∧ ∃ gin, SrcL F w g H (innerIds H [j] [k]) gin (bkOne k x b).2 ∧
      ∀ G1 G2, G1.length = b → ∀ T cs, (bkOne k x b).1 = .var T cs → BR F w (G1 ++ gin ++ G2) e (.var T cs) := by
  cases k with
  | arr t =>
    have h : blkL H t j = some x := hd
    unfold blkL at h
    split at h
    · rename_i t' l hb
      have : t' = t := by unfold castL? at h; split at h <;> simp_all
      subst this
      rw [asSl_cast] at h
      cases h
      exact ⟨.id he hb (fun h => ⟨h, rfl⟩) (hH.blk j _ e hb he) .nil, (fun t l h => by rw [hb] at h; cases h), [], .nil, fun _ _ _ T cs h => by cases h⟩
    · cases h
  | var T fs =>
    have h := hd
    simp only [decOne] at h
    split at h
    · rename_i T' cs hb
      split at h
      · rename_i y hok hy
        cases h
        rw [Bool.and_eq_true] at hok
        have hT := Nat.eq_of_beq_eq_true hok.1
        subst hT
        obtain ⟨h1, h2, vs, h3, h4⟩ := hH.blk j _ e hb he
        obtain ⟨gin, k1, k2⟩ := bk_cells hH fs cs x _ b hok.2 hy h4
        refine ⟨.var he hb .nil, (fun t l h => by rw [hb] at h; cases h), gin, ?_, fun G1 G2 hG T cs' hc => ?_⟩
        · simp only [innerIds, hb, List.append_nil]; exact k1
        · cases hc
          exact ⟨h1, h2, vs, h3, k2 G1 G2 hG⟩
      · cases h
    · cases h
theorem innerIds_cons (H : Hp) (j : Nat) (r : List Nat) (k : Bk) (bs : List Bk) : innerIds H (j :: r) (k :: bs) = innerIds H [j] [k] ++ innerIds H r bs := by
  cases k <;> simp [innerIds]
theorem back_all (hH : HR B F w g H) : (back : List Bk) → (y : (retTy (slTys back)).den) → (j b : Nat) → (g0 : List GE) → decBack H j back = some y → g0.length = back.length → (∀ (i : Nat) e, g0[i]? = some e → g[j + i]? = some e) →
    SrcL F w g H (List.range' j back.length) g0 (backBlks back y b).1 ∧ (∀ i ∈ List.range' j back.length, ∀ t l, H[i]? ≠ some (.arr t l true)) ∧
    ∃ gin, SrcL F w g H (innerIds H (List.range' j back.length) back) gin (backBlks back y b).2 ∧
      ∀ G1 G2, G1.length = b → ∀ (p : Nat) T cs e, (backBlks back y b).1[p]? = some (.var T cs) → g0[p]? = some e → BR F w (G1 ++ gin ++ G2) e (.var T cs)
  | [], y, j, b, g0, _, hl, _ => by
    obtain rfl : g0 = [] := List.length_eq_zero_iff.1 hl
    exact ⟨.nil, by simp, [], .nil, fun _ _ _ p T cs e h => by simp [backBlks] at h⟩
  | [k], y, j, b, g0, h, hl, hg => by
    obtain ⟨e, rfl⟩ : ∃ e, g0 = [e] := by
      match g0, hl with
      | [e], _ => exact ⟨e, rfl⟩
    obtain ⟨h1, h0, gin, h2, h3⟩ := one_part hH k y j b e h (hg 0 e rfl)
    refine ⟨h1, by simpa using h0, gin, h2, fun G1 G2 hG p T cs e' hp he' => ?_⟩
    cases p with
    | zero =>
      simp [backBlks] at hp he'
      subst he'
      exact h3 G1 G2 hG T cs hp
    | succ p => simp [backBlks] at hp
  | k :: k' :: r, y, j, b, g0, h, hl, hg => by
    obtain ⟨e, g1, rfl⟩ : ∃ e g1, g0 = e :: g1 := by
      match g0, hl with
      | e :: g1, _ => exact ⟨e, g1, rfl⟩
    simp only [decBack] at h
    split at h
    · rename_i x hx
      split at h
      · rename_i y' hy'
        cases h
        obtain ⟨h1, h0, gin, h2, h3⟩ := one_part hH k x j b e hx (hg 0 e rfl)
        obtain ⟨q1, q0, gin', q2, q3⟩ := back_all hH (k' :: r) y' (j + 1) (b + (bkOne k x b).2.length) g1 hy' (by simpa using hl) (fun i e h => by have := hg (i + 1) e (by simpa using h); rw [show j + 1 + i = j + (i + 1) by omega]; exact this)
        have hr : List.range' j (k :: k' :: r).length = j :: List.range' (j + 1) (k' :: r).length := by simp [List.range']
        rw [hr]
        refine ⟨h1.append q1, ?_, gin ++ gin', ?_, fun G1 G2 hG p T cs e' hp he' => ?_⟩
        · intro i hi
          rcases List.mem_cons.1 hi with rfl | hi
          · exact h0
          · exact q0 i hi
        · rw [innerIds_cons]; exact h2.append q2
        · have e1 : G1 ++ (gin ++ gin') ++ G2 = G1 ++ gin ++ (gin' ++ G2) := by simp
          have e2 : G1 ++ (gin ++ gin') ++ G2 = (G1 ++ gin) ++ gin' ++ G2 := by simp
          cases p with
          | zero =>
            simp [backBlks] at hp he'
            subst he'
            rw [e1]
            exact h3 G1 _ hG T cs hp
          | succ p =>
            simp [backBlks] at hp he'
            rw [e2]
            exact q3 (G1 ++ gin) G2 (by simp [hG, h2.len]) p T cs e' hp he'
      · cases h
    · cases h
theorem rFst_mk (ts : List Ty) (back : List Bk) (x : (retTy ts).den) (y : (retTy (slTys back)).den) : rFst ts back (rMk ts back x y) = x := by cases back <;> rfl
theorem rSnd_mk (ts : List Ty) (back : List Bk) (x : (retTy ts).den) (y : (retTy (slTys back)).den) : rSnd ts back (rMk ts back x y) = y := by
  cases back with
  | nil => rfl
  | cons a b => rfl
theorem retVals_lent : (ts : List Ty) → (x : (retTy ts).den) → (b : Nat) → retVals false ts x b = ((retVals false ts x 0).1, [])
  | [], _, _ => rfl
  | [t], _, _ => rfl
  | t :: u :: ts, x, b => by
    simp only [retVals]
    rw [retVals_lent (u :: ts) x.2 b]
theorem freeArr_ne {l : List Nat} (h : l.all (freeArr H) = true) : ∀ i ∈ l, ∀ t l', H[i]? ≠ some (.arr t l' true) := by
  intro i hi t l' hb
  have := List.all_eq_true.1 h i hi
  unfold freeArr at this
  rw [hb] at this
  cases this
theorem ret_all (hH : HR B F w g H) {F0 : Fz} {g0 : List GE} {w0 : World} (hb : Gr B F0 [] w0 F [] w) {own : Bool} {ts : List Ty} {back : List Bk} {v : AV} {u : Value} {x : (retTy ts).den} {y : (retTy (slTys back)).den}
    (hk1 : back.length ≤ g0.length) (hk2 : ∀ (i : Nat) e, i < back.length → g0[i]? = some e → g[i]? = some e) (ho : finOk own back v (finH own v H) = true) (h : decRet ts (v, H) = some x) (hy : decBack (finH own v H) 0 back = some y) (hv : VR2 F w g v u) :
    RetOk B own ts back F0 g0 w0 w (rMk ts back x y) u := by
  have hgl : (gb back g0).length = back.length := by unfold gb; simp; omega
  have hg0 : ∀ (i : Nat) e, (gb back g0)[i]? = some e → g[0 + i]? = some e := by
    intro i e he
    have hi := idx_lt he
    rw [hgl] at hi
    unfold gb at he
    rw [List.getElem?_take, if_pos hi] at he
    rw [Nat.zero_add]
    exact hk2 i e hi he
  have hrange : List.range' 0 back.length = List.range back.length := by rw [List.range_eq_range']
  have fin : ∀ {F1 : Fz} {H1 : Hp} {ids gs}, HR B F1 w g H1 → Gr B F0 [] w0 F1 [] w → decBack H1 0 back = some y → (finIds back H1 ++ ids).Nodup → (∀ i ∈ innerIds H1 (List.range back.length) back ++ ids, ∀ t l, H1[i]? ≠ some (.arr t l true)) →
      SrcL F1 w g H1 ids gs (retVals own ts x (back.length + (backBlks back y back.length).2.length)).2 → (∀ G1 : List GE, G1.length = back.length + (backBlks back y back.length).2.length → VR2 F1 w (G1 ++ gs) (one (retVals own ts x (back.length + (backBlks back y back.length).2.length)).1) u) →
      RetOk B own ts back F0 g0 w0 w (rMk ts back x y) u := by
    intro F1 H1 ids gs hH1 hG1 hy1 hnd hlent hsrc hval
    obtain ⟨t1, t0, gin, t2, t3⟩ := back_all hH1 back y 0 back.length (gb back g0) hy1 hgl hg0
    rw [hrange] at t1 t0 t2
    have hinl : gin.length = (backBlks back y back.length).2.length := t2.len
    refine ⟨F1, gin ++ gs, hG1, ?_, ?_⟩
    · rw [rFst_mk, rSnd_mk]
      refine src_HR hH1 (t1.append (t2.append hsrc)) ?_ ?_ ?_
      · unfold finIds at hnd; rw [List.append_assoc] at hnd; exact hnd
      · intro i hi
        rcases List.mem_append.1 hi with hi | hi
        · exact t0 i hi
        · exact hlent i hi
      · intro p T cs e hp he
        have htl := backBlks_len back y back.length
        rcases get_app hp with h1 | ⟨h1, h2⟩
        · have hlt := idx_lt h1
          have he' : (gb back g0)[p]? = some e := by rw [List.getElem?_append_left (by omega)] at he; exact he
          have := t3 (gb back g0) gs hgl p T cs e h1 he'
          rw [List.append_assoc] at this
          exact this
        · exfalso
          rcases List.mem_append.1 (List.mem_of_getElem? h2) with h | h
          · obtain ⟨t, l, hh⟩ := backBlks_free back y _ _ h; cases hh
          · obtain ⟨t, l, hh⟩ := retVals_free own ts x _ _ h; cases hh
    · rw [rFst_mk, rSnd_mk]
      have := hval (gb back g0 ++ gin) (by simp [hgl, hinl])
      rw [List.append_assoc] at this
      exact this
  cases own with
  | false =>
    unfold finOk at ho
    simp only [Bool.and_eq_true, finH] at ho
    simp only [finH] at hy
    have hnd := nodupB_iff ho.2
    refine fin (ids := []) (gs := []) (lend_HR hH (ownIds (retCells v))) (hb.trans ⟨(lend_gr hH (ownIds (retCells v))).up, (lend_gr hH (ownIds (retCells v))).new, (lend_gr hH (ownIds (retCells v))).cell, fun _ _ h => h, (lend_gr hH (ownIds (retCells v))).below⟩) hy (by simpa using hnd) ?_ ?_ ?_
    · intro i hi
      rw [List.append_nil] at hi
      exact freeArr_ne ho.1 i hi
    · rw [retVals_lent]; exact .nil
    · intro G1 _
      rw [retVals_lent]
      exact decRet_ok hH h hv
  | true =>
    unfold finOk at ho
    simp only [Bool.and_eq_true, finH] at ho
    simp only [finH] at hy
    obtain ⟨hown, hfree, hnd⟩ := ho
    have hnd := nodupB_iff hnd
    rw [ownOk_cells] at hown
    generalize hcs : retCells v = cs at hown hnd
    simp only [Bool.and_eq_true, List.all_eq_true, beq_iff_eq] at hown
    obtain ⟨⟨ho1, ho2⟩, ho3⟩ := hown
    have hlent : ∀ i ∈ ownIds cs, ∀ t l, H[i]? ≠ some (.arr t l true) := by
      intro i hi t l hb
      have := ho1 i hi
      rw [hb] at this
      cases this
    have hsl : ∀ v ∈ cs, ∀ t l, v ≠ .sl t l := by
      rintro v hv t l rfl
      have := ho3 _ hv
      cases this
    have fin2 : ∀ {gs ids}, ids.Sublist (ownIds cs) → SrcL F w g H ids gs (retVals true ts x (back.length + (backBlks back y back.length).2.length)).2 →
        (∀ G1 : List GE, G1.length = back.length + (backBlks back y back.length).2.length → VR2 F w (G1 ++ gs) (one (retVals true ts x (back.length + (backBlks back y back.length).2.length)).1) u) → RetOk B true ts back F0 g0 w0 w (rMk ts back x y) u := by
      intro gs ids h1 h2 h3
      refine fin hH hb hy ?_ ?_ h2 h3
      · exact (List.Sublist.append (List.Sublist.refl _) h1).nodup hnd
      · intro i hi
        rcases List.mem_append.1 hi with hi | hi
        · exact freeArr_ne hfree i hi
        · exact hlent i (h1.subset hi)
    have tup : ∀ vs, v = .tup vs → decTup H ts vs = some x → (ts.length ≠ 1) → RetOk B true ts back F0 g0 w0 w (rMk ts back x y) u := by
      rintro vs rfl hd hl
      have hcs : vs.flatMap cellsOf = cs := hcs
      subst hcs
      obtain ⟨us, rfl, hall⟩ := hv
      obtain ⟨gs, ids, k1, k2, k3⟩ := own_tup hH ts vs x _ (back.length + (backBlks back y back.length).2.length) hd hall fun v hv v' hv' => hsl v' (List.mem_flatMap.2 ⟨v, hv, hv'⟩)
      refine fin2 k1 k2 fun G1 hG => ?_
      have := k3 G1 [] hG
      simp only [List.append_nil] at this
      clear k1 k2 k3 hd fin2 fin
      match ts, x, hl, this with
      | [], x, _, this => exact ⟨us, rfl, this⟩
      | [t], _, hl, _ => exact absurd rfl hl
      | [t, t'], x, _, this => exact ⟨us, rfl, this⟩
      | t :: t' :: t'' :: ts, x, _, this => exact ⟨us, rfl, this⟩
    match ts, x, h with
    | [t], x, h =>
      have h : asTy H t v = some x := h
      have hcs' : cellsOf v = cs := by
        have := (asTy_sol h).1
        cases v <;> first | exact hcs | (cases this; done)
      obtain ⟨gs, ids, k1, k2, k3⟩ := own_val hH (back.length + (backBlks back y back.length).2.length) h (VR2_sol hv (asTy_sol h).1) (by rw [hcs']; exact hsl)
      refine fin2 (by rw [← hcs']; exact k1) k2 fun G1 hG => ?_
      have := k3 G1 [] hG
      simp only [List.append_nil] at this
      exact VR1_2 this
    | [], x, h =>
      cases v with
      | tup vs => exact tup vs rfl h (by simp)
      | _ => simp [decRet] at h
    | t :: t' :: ts, x, h =>
      cases v with
      | tup vs => exact tup vs rfl h (by simp)
      | _ => simp [decRet] at h
end
end Go.Proofs.YtmojilihllhadaaGreatDoor.Ev
/- THE EVALUATOR IS RIGHT: what it says of a call is what the call does. -/
namespace Go.Proofs.YtmojilihllhadaaGreatDoor.Ev
open Go Go.RowKit
set_option linter.unusedVariables false
set_option linter.unusedSimpArgs false
section
variable {P : Program} {E : Env}
def Base (E : Env) (f : FuncId) (B : Nat → Prop) (F0 : Fz) (g0 : List GE) (w0 : World) (F : Fz) (g : List GE) (w : World) : Prop :=
  Bs B w ∧ Gr B F0 [] w0 F [] w ∧ (backOf E f).length ≤ g0.length ∧ ∀ (i : Nat) e, i < (backOf E f).length → g0[i]? = some e → g[i]? = some e
theorem Base.gr {B : Nat → Prop} {F0 F F' : Fz} {g0 g g' : List GE} {w0 w w' : World} {f : FuncId} (h : Base E f B F0 g0 w0 F g w) (k : Gr B F g w F' g' w') : Base E f B F0 g0 w0 F' g' w' :=
  ⟨h.1.mono k.below.size, h.2.1.trans ⟨k.up, k.new, k.cell, fun _ _ h => h, k.below⟩, h.2.2.1, fun i e hi he => k.ext _ _ (h.2.2.2 i e hi he)⟩
theorem Base.cut {B : Nat → Prop} {F0 F F' : Fz} {g0 g g' : List GE} {w0 w : World} {f : FuncId} {fi : FI} (hf : E.fi f = some fi) (h : Base E f B F0 g0 w0 F g w) (k : Gr B F [] w F' [] w)
    (hk : fi.back.length ≤ g.length → ∀ i e, i < fi.back.length → g[i]? = some e → g'[i]? = some e) : Base E f B F0 g0 w0 F' g' w := by
  have hbk : backOf E f = fi.back := by unfold backOf; rw [hf]
  refine ⟨h.1, h.2.1.trans k, h.2.2.1, fun i e hi he => ?_⟩
  have hl : fi.back.length ≤ g.length := by
    rw [← hbk]
    have h1 := h.2.2.1
    rcases Nat.eq_zero_or_pos (backOf E f).length with h0 | h0
    · omega
    · have := idx_lt (h.2.2.2 ((backOf E f).length - 1) _ (by omega) (List.getElem?_eq_getElem (by omega)))
      omega
  exact hk hl i e (by rw [← hbk]; exact hi) (h.2.2.2 i e hi he)
theorem fin_ok {B : Nat → Prop} {F : Fz} {g g0 : List GE} {w w0 : World} {H : Hp} {F0 : Fz} {f : FuncId} {own : Bool} {x : Ret E f} {σ : AV} {v : Value} (h : finK E f own σ H = some x) (hv : VR2 F w g σ v) (hH : HR B F w g H)
    (hb : Base E f B F0 g0 w0 F g w) : RetOk B own (rtsOf E f) (backOf E f) F0 g0 w0 w x v := by
  unfold finK at h
  split at h
  · rename_i H' hn
    obtain ⟨F1, g1, k1, k2⟩ := normH_ok hn hH hb.1
    have hb1 := hb.gr k1
    have hv1 := VR2_gr k1 hv
    unfold finK1 at h
    split at h
    · rename_i ho
      split at h
      · rename_i y hy
        split at h
        · rename_i z hz
          cases h
          exact ret_all k2 hb1.2.1 hb1.2.2.1 hb1.2.2.2 ho hy hz hv1
        · cases h
      · cases h
    · cases h
  · cases h
def CutsOk (P : Program) (E : Env) (n : Nat) : Prop :=
  ∀ f fi x todo ts H a B F0 g0 w0 F g w, E.fi f = some fi → ev E n f (.cut todo ts H) = some x → St B F g w H ts a → GlobOk E B F w → Base E f B F0 g0 w0 F g w →
    Runs P f todo a w fun e w' => ∃ v, e = .returned v ∧ RetOk B fi.own (rtsOf E f) (backOf E f) F0 g0 w0 w' x v
theorem ev_ok (hE : ∀ t, TiOk P E t) (hfi : FiOk P E) (hmix : P.follows .mixedOrders = true) : ∀ n, CallOk P E (fun g as H => ev E n g (.call as H)) ∧ CutsOk P E n
  | 0 => ⟨fun f fi args H x B F g w vs _ h => by simp [ev] at h, fun f fi x todo ts H a B F0 g0 w0 F g w _ h => by simp [ev] at h⟩
  | n + 1 => by
    obtain ⟨ih1, ih2⟩ := ev_ok hE hfi hmix n
    refine ⟨fun f fi args H x B F g w vs hf h hargs hH hBs hg => ?_, fun f fi x todo ts H a B F0 g0 w0 F g w hf h hs hg hb => ?_⟩
    · obtain ⟨e1, e2, e3⟩ := hfi.1 f fi hf
      have hbk : backOf E f = fi.back := by unfold backOf; rw [hf]
      simp only [ev, hf] at h
      cases hbody : fi.fn.body with
      | none => rw [hbody] at e2; cases e2
      | some c =>
        simp only [hbody] at h
        split at h
        rotate_left
        · cases h
        rename_i hbl
        have hbase : Base E f B F g w F g w := by
          refine ⟨hBs, Gr.refl .., ?_, fun _ _ _ h => h⟩
          rw [hbk, hH.len]
          exact Nat.le_of_ble_eq_true hbl
        refine Runs.calls e1 hbody ?_
        have hst : St B F g w H (entry fi args) { tmps := vs ++ Array.replicate (fi.fn.ntmps - vs.size) undef, defers := [] } := by
          refine ⟨?_, hH, hBs, rfl⟩
          have hl : args.length = vs.size := by rw [hargs.length]; simp
          simp only [entry, Array.toList_append, Array.toList_replicate, hl]
          exact hargs.append (All2.replicate (a := AV.top) (b := undef) trivial _)
        exact steps_ok hE hfi hmix ih1 B STEPS x _ f fi _ _ H _ _ F g w _ (fun F' g' w' => Base E f B F g w F' g' w') e1 h hst hg hbase
          (fun _ _ _ _ _ _ h1 h2 => h1.gr h2) (fun _ _ _ _ _ _ h k q => h.cut hf k q)
          (fun σ H' v F' g' w' q1 q2 q3 q4 => ⟨v, rfl, fin_ok q1 q2 q4 q3⟩)
          (fun gt hgt todo ts H a F' g' w' q1 q2 q3 q4 => by cases hgt; exact ih2 f fi x todo ts H a B F g w F' g' w' hf q1 q2 q3 q4)
    · obtain ⟨e1, e2, e3⟩ := hfi.1 f fi hf
      simp only [ev, hf] at h
      split at h
      · rename_i id ops draw k
        · refine Runs.region (Post := fun a' w' => Runs P f k a' w' fun e w' => ∃ v, e = .returned v ∧ RetOk B fi.own (rtsOf E f) (backOf E f) F0 g0 w0 w' x v)
            (region_ok hE hfi hmix ih1 ?_ h hs hg fun ts' H' a' w' F' g' k1 k2 k3 k4 => ?_) (fun _ _ h => h)
          · intro B' f' fi' args H K y F g w vs hf' hi hargs hH hB' hgl
            obtain ⟨d1, d2, d3⟩ := hfi.1 f' fi' hf'
            cases hbody : fi'.fn.body with
            | none => rw [hbody] at d2; cases d2
            | some c =>
              simp only [hbody, inlOf] at hi
              refine Runs.calls d1 hbody ?_
              have hst : St B' F g w H (entry fi' args) { tmps := vs ++ Array.replicate (fi'.fn.ntmps - vs.size) undef, defers := [] } := by
                refine ⟨?_, hH, hB', rfl⟩
                have hl : args.length = vs.size := by rw [hargs.length]; simp
                simp only [entry, Array.toList_append, Array.toList_replicate, hl]
                exact hargs.append (All2.replicate (a := AV.top) (b := undef) trivial _)
              exact steps_ok hE hfi hmix ih1 B' STEPS y none f' fi' _ _ H K _ F g w _ (fun F' g' w' => Gr B' F g w F' g' w') d1 hi hst hgl (Gr.refl ..) (fun _ _ _ _ _ _ h1 h2 => h1.trans h2) (fun h => by cases h)
                (fun σ H' v F' g' w' q1 q2 q3 q4 => ⟨v, σ, H', F', g', rfl, q1, q2, q3, q4⟩) (fun gt h => by cases h)
          · exact steps_ok hE hfi hmix ih1 B STEPS x _ f fi k ts' H' _ a' F' g' w' _ (fun F' g' w' => Base E f B F0 g0 w0 F' g' w') e1 k1 k2 k3
              (hb.gr k4) (fun _ _ _ _ _ _ h1 h2 => h1.gr h2) (fun _ _ _ _ _ _ h k q => h.cut hf k q)
              (fun σ H' v F' g' w' q1 q2 q3 q4 => ⟨v, rfl, fin_ok q1 q2 q4 q3⟩)
              (fun gt hgt todo ts H a F' g' w' q1 q2 q3 q4 => by cases hgt; exact ih2 f fi x todo ts H a B F0 g0 w0 F' g' w' hf q1 q2 q3 q4)
      · cases h
end
end Go.Proofs.YtmojilihllhadaaGreatDoor.Ev
/- The evaluator's tables hold of the program: a check that the kernel runs. -/
namespace Go.Proofs.YtmojilihllhadaaGreatDoor.Ev
open Go Go.RowKit
set_option linter.unusedVariables false
set_option linter.unusedSimpArgs false
def aggB (P : Program) (t : TypeId) : Option Bool := match P.underlying t with
  | some (.struct _) | some (.array _ _) => some true
  | some _ => some false
  | none => none
theorem aggB_ok {P : Program} {t : TypeId} {b : Bool} (h : aggB P t = some b) : (isAgg t).run P = fun w => .ok b w := by
  funext w
  unfold aggB at h
  cases hu : P.underlying t with
  | none => rw [hu] at h; cases h
  | some d =>
    unfold isAgg
    simp only [Sem.run_bind, run_underlying hu, Result.andThen]
    rw [hu] at h
    cases d <;> (cases h; rfl)
def z1 : AV → Value → Bool
  | .int k x, .int k' y => decide (k = k') && decide (x = y)
  | .bool b, .bool c => b == c
  | .str s, .string s' => s.data.toList.isEmpty && s'.data.toList.isEmpty
  | .emp, .slice none 0 0 => true
  | .raw (.pointer none), .pointer none => true
  | .raw (.slice none 0 0), .slice none 0 0 => true
  | .raw .nilFunc, .nilFunc => true
  | .raw .nilIface, .nilIface => true
  | .top, _ => true
  | _, _ => false
theorem emptyBA {s s' : ByteArray} (h : (s.data.toList.isEmpty && s'.data.toList.isEmpty) = true) : s = s' := by
  simp only [Bool.and_eq_true, List.isEmpty_iff] at h
  have h1 : s.data = #[] := Array.toList_eq_nil_iff.1 h.1
  have h2 : s'.data = #[] := Array.toList_eq_nil_iff.1 h.2
  exact ByteArray.ext (by rw [h1, h2])
theorem z1_ok {F : Fz} {w : World} {g : List GE} {v : AV} {u : Value} (h : z1 v u = true) : VR0 F w g v u := by
  unfold z1 at h
  split at h
  · simp only [Bool.and_eq_true, decide_eq_true_eq] at h
    obtain ⟨rfl, rfl⟩ := h
    rfl
  · rw [beq_iff_eq] at h; subst h; rfl
  · have := emptyBA h; subst this; rfl
  · exact ⟨none, rfl⟩
  · rfl
  · rfl
  · rfl
  · rfl
  · trivial
  · cases h
def zB : List AV → List Value → Bool
  | [], [] => true
  | v :: l, u :: m => z1 v u && zB l m
  | _, _ => false
theorem zB_ok {F : Fz} {w : World} {g : List GE} : ∀ {l : List AV} {m : List Value}, zB l m = true → All2 (VR0 F w g) l m
  | [], [], _ => .nil
  | [], _ :: _, h => by cases h
  | _ :: _, [], h => by cases h
  | v :: l, u :: m, h => by
    simp only [zB, Bool.and_eq_true] at h
    exact .cons (z1_ok h.1) (zB_ok h.2)
def dB : Ty → List Value → Option (List Value)
  | .int k, .int k' y :: r => match decide (k = k') && decide (y = 0) with
    | true => some r
    | false => none
  | .bool, .bool false :: r => some r
  | .str, .string s :: r => match s.data.toList.isEmpty with
    | true => some r
    | false => none
  | .sl _, .slice none 0 0 :: r => some r
  | .unit, r => some r
  | .pair a b, r => match dB a r with
    | some r => dB b r
    | none => none
  | .st t, r => dB t r
  | _, _ => none
theorem dB_ok {F : Fz} {w : World} : (t : Ty) → (cs r : List Value) → dB t cs = some r → ∃ us, cs = us ++ r ∧ CR F w t t.dft us
  | .int k, cs, r, h => by
    match cs, h with
    | [], h => cases h
    | v :: m, h =>
      cases v with
      | int k' y =>
        simp only [dB] at h
        split at h
        · rename_i hh
          simp only [Bool.and_eq_true, decide_eq_true_eq] at hh
          obtain ⟨rfl, rfl⟩ := hh
          cases h
          exact ⟨[_], rfl, rfl⟩
        · cases h
      | _ => cases h
  | .bool, cs, r, h => by
    match cs, h with
    | [], h => cases h
    | v :: m, h =>
      cases v with
      | bool y =>
        cases y with
        | false => cases h; exact ⟨[_], rfl, rfl⟩
        | true => cases h
      | _ => cases h
  | .str, cs, r, h => by
    match cs, h with
    | [], h => cases h
    | v :: m, h =>
      cases v with
      | string y =>
        simp only [dB] at h
        split at h
        · rename_i hh
          cases h
          refine ⟨[_], rfl, ?_⟩
          show [_] = [_]
          congr 1
          congr 1
          exact emptyBA (by rw [hh]; rfl)
        · cases h
      | _ => cases h
  | .sl t, cs, r, h => by
    match cs, h with
    | [], h => cases h
    | v :: m, h =>
      have : v = .slice none 0 0 ∧ m = r := by
        unfold dB at h
        split at h
        all_goals first | (rename_i e _; cases e; done) | (cases h; done) | skip
        all_goals simp_all
      obtain ⟨rfl, rfl⟩ := this
      exact ⟨[_], rfl, none, 0, rfl, Nat.le_refl _, fun i x hx => by simp [Ty.dft] at hx⟩
  | .unit, cs, r, h => by
    have : cs = r := by cases cs <;> (cases h; rfl)
    exact ⟨[], by rw [this]; rfl, rfl⟩
  | .st t, cs, r, h => dB_ok t cs r (by simpa only [dB] using h)
  | .pair a b, cs, r, h => by
    simp only [dB] at h
    split at h
    · rename_i r1 h1
      obtain ⟨u1, rfl, k1⟩ := dB_ok (F := F) (w := w) a cs r1 h1
      obtain ⟨u2, rfl, k2⟩ := dB_ok (F := F) (w := w) b r1 r h
      exact ⟨u1 ++ u2, by simp, u1, u2, rfl, k1, k2⟩
    · cases h
def fB (P : Program) : List Field → List (Nat × Nat × Bool) → Bool
  | _, [] => true
  | [], _ :: _ => false
  | fd :: fs, (off, size, agg) :: r => Nat.beq fd.offset off && (match P.info? fd.type with | some i => Nat.beq i.size size | none => false) && (match aggB P fd.type with | some b => b == agg | none => false) && fB P fs r
theorem fB_ok {P : Program} : ∀ (fs : List Field) (l : List (Nat × Nat × Bool)), fB P fs l = true → ∀ (f off size : Nat) (agg : Bool), l[f]? = some (off, size, agg) →
    ∃ (fd : Field) (i : TypeInfo), fs[f]? = some fd ∧ fd.offset = off ∧ P.info? fd.type = some i ∧ i.size = size ∧ ((isAgg fd.type).run P = fun w => .ok agg w)
  | _, [], _, f, _, _, _, h => by simp at h
  | [], _ :: _, h, _, _, _, _, _ => by cases h
  | fd :: fs, (off, size, agg) :: r, h, f, off', size', agg', hf => by
    simp only [fB, Bool.and_eq_true] at h
    obtain ⟨⟨⟨h1, h2⟩, h3⟩, h4⟩ := h
    cases f with
    | zero =>
      simp at hf
      obtain ⟨rfl, rfl, rfl⟩ := hf
      cases hi : P.info? fd.type with
      | none => rw [hi] at h2; cases h2
      | some i =>
        rw [hi] at h2
        cases ha : aggB P fd.type with
        | none => rw [ha] at h3; cases h3
        | some b =>
          rw [ha] at h3
          have : b = agg := by simpa using h3
          subst this
          exact ⟨fd, i, rfl, Nat.eq_of_beq_eq_true h1, hi, Nat.eq_of_beq_eq_true h2, aggB_ok ha⟩
    | succ f => exact fB_ok fs r h4 f off' size' agg' (by simpa using hf)
theorem sem_assoc {α β γ : Type} (x : Sem α) (f : α → Sem β) (k : β → Sem γ) : (x.bind f).bind k = x.bind fun a => (f a).bind k := by
  induction x with
  | pure a => rfl
  | halt h => rfl
  | _ => simp only [Sem.bind]; simp only [*]
theorem sem_pure {α : Type} (x : Sem α) : x.bind Sem.pure = x := by
  induction x with
  | pure a => rfl
  | halt h => rfl
  | _ => simp only [Sem.bind]; simp only [*]
theorem sem_lawful : LawfulMonad Sem := LawfulMonad.mk' Sem (id_map := fun x => sem_pure x) (pure_bind := fun _ _ => rfl) (bind_assoc := sem_assoc)
theorem mapM_runL {α β : Type} {P : Program} {f : α → Sem β} {h : α → β} : ∀ (l : List α), (∀ x ∈ l, ∀ w, (f x).run P w = .ok (h x) w) → ∀ w, (l.mapM f).run P w = .ok (l.map h) w
  | [], _, w => rfl
  | x :: l, hf, w => by
    have := sem_lawful
    rw [List.mapM_cons]
    simp only [Sem.run_bind, hf x (by simp) w, Result.andThen, mapM_runL l (fun y hy => hf y (by simp [hy])) w]
    rfl
theorem mapM_run {α β : Type} {P : Program} {f : α → Sem β} {as : Array α} {h : α → β} (hf : ∀ x ∈ as, ∀ w, (f x).run P w = .ok (h x) w) : (as.mapM f).run P = fun w => .ok (as.map h) w := by
  have := sem_lawful
  funext w
  rw [Array.mapM_eq_mapM_toList]
  show (List.toArray <$> _ : Sem _).run P w = _
  rw [← bind_pure_comp]
  simp only [Sem.run_bind, mapM_runL as.toList (fun x hx => hf x (by simpa using hx)) w, Result.andThen]
  show Result.ok _ w = _
  congr 1
  apply Array.toList_inj.1
  simp
def plB (P : Program) (fs : List Field) : Bool := fs.all fun f => (P.info? f.type).isSome
theorem places_ok {P : Program} {fs : Array Field} (h : plB P fs.toList = true) :
    ((fs.mapM fun f => do pure (f.offset, ← sizeOf f.type) : Sem (Array (Nat × Nat))).run P = fun w => .ok (fs.map fun f => (f.offset, P.cellsOf f.type)) w) := by
  refine mapM_run fun f hf w => ?_
  have := List.all_eq_true.1 h f (by simpa using hf)
  obtain ⟨i, hi⟩ := Option.isSome_iff_exists.1 this
  simp only [Sem.run_bind, Go.run_sizeOf w hi, Result.andThen]
  rfl
def elB (P : Program) (ei : TI) (e : TypeId) : Bool := match P.info? e with
  | some i => Nat.beq i.size ei.ty.size && Nat.ble i.bytes 1024 && Nat.beq i.size ei.size && (match i.zero with
    | some z => (match dB ei.ty z.cells.toList with | some [] => true | _ => false)
    | none => false)
  | none => false
def dOk (P : Program) (t : TypeId) (d : D) : Bool := match d, P.underlying t with
  | .int k, some (.int k') => decide (k = k')
  | .bool, some .bool => true
  | .str, some .string => true
  | .slice e, some (.slice e') => Nat.beq e e'
  | .array n e, some (.array n' e') => Nat.beq n n' && Nat.beq e e'
  | .struct, some (.struct _) => true
  | .ptr e, some (.pointer e') => Nat.beq e e'
  | .ptr _, _ => false
  | .map k e, some (.map k' e') => Nat.beq k k' && Nat.beq e e'
  | .map _ _, _ => false
  | .other, _ => true
  | _, _ => false
def uB : Ty → TypeId → Bool
  | .int .u8, e => Nat.beq e u8T
  | _, _ => true
def tiB (P : Program) (ti : TypeId → TI) (t : TypeId) : Bool :=
  dOk P t (ti t).d &&
  (match (ti t).flds with
    | [] => (match (ti t).d, P.underlying t with | .struct, some (.struct fs) => plB P fs.toList | .struct, _ => false | _, _ => true)
    | fl => match P.underlying t with | some (.struct fs) => fB P fs.toList fl && plB P fs.toList | _ => false) &&
  (match Nat.beq (ti t).size 1000000000 with
    | true => true
    | false => match P.info? t, aggB P t with
      | some i, some a => Nat.beq i.size (ti t).size && Nat.beq i.bytes (ti t).bytes && (a == (ti t).agg) && (match i.zero with
        | some z => (match Nat.beq (ti t).zero.length (ti t).size with | true => zB (ti t).zero z.cells.toList | false => true)
        | none => false)
      | _, _ => false) &&
  Nat.blt (ti t).zero.length 1000000000 &&
  (match (ti t).d with
    | .slice e | .array _ e => elB P (ti e) e && uB (ti e).ty e
    | .bool => (match P.info? t with
      | some i => (match i.zero with
        | some (.bool false) => true
        | _ => false)
      | none => false)
    | _ => true)
def kindB (P : Program) (t : TypeId) (k : Ty) : Bool := match k, P.underlying t with
  | .int k, some (.int k') => decide (k = k')
  | .str, some .string => true
  | .bool, some .bool => true
  | _, _ => false
theorem kindB_ok {P : Program} {t : TypeId} {k : Ty} (h : kindB P t k = true) : KindT P t k := by
  unfold kindB at h
  split at h
  · rename_i e
    have := of_decide_eq_true h
    subst this
    exact e
  · rename_i e; exact e
  · rename_i e; exact e
  · cases h
def eqFB (P : Program) : Nat → List Field → List Ty → Bool
  | _, [], [] => true
  | i, f :: r, t :: ts => Nat.beq f.offset i && (f.name != "_") && (aggB P f.type == some false) && kindB P f.type t && eqFB P (i + 1) r ts
  | _, _, _ => false
theorem eqFB_ok {P : Program} : ∀ (fs : List Field) (i : Nat) (ts : List Ty), eqFB P i fs ts = true → EqFs P i fs ts
  | [], i, [], _ => True.intro
  | [], i, t :: ts, h => by cases h
  | f :: r, i, [], h => by cases h
  | f :: r, i, t :: ts, h => by
    simp only [eqFB, Bool.and_eq_true] at h
    obtain ⟨⟨⟨⟨h1, h2⟩, h3⟩, h4⟩, h5⟩ := h
    exact ⟨Nat.eq_of_beq_eq_true h1, by simpa using h2, aggB_ok (eq_of_beq h3), kindB_ok h4, eqFB_ok r (i + 1) ts h5⟩
def eqB (P : Program) (p : Nat × List Ty) : Bool := match P.underlying p.1 with
  | some (.struct fs) => !P.stoodInHeld p.1 && !P.eqGuardType P.depth p.1 && eqFB P 0 fs.toList p.2
  | _ => false
def EqsOk (P : Program) (E : Env) (t : TypeId) : Prop := ∀ ts, E.eqT t = some ts → ∃ fs : Array Field, P.underlying t = some (.struct fs) ∧ P.stoodInHeld t = false ∧ P.eqGuardType P.depth t = false ∧ EqFs P 0 fs.toList ts
theorem eqF_ok {P : Program} : ∀ (l : List (Nat × List Ty)) (t : TypeId) (ts : List Ty), l.all (eqB P) = true → eqF l t = some ts → ∃ fs : Array Field, P.underlying t = some (.struct fs) ∧ P.stoodInHeld t = false ∧ P.eqGuardType P.depth t = false ∧ EqFs P 0 fs.toList ts
  | [], t, ts, _, h => by cases h
  | p :: r, t, ts, h, hts => by
    rw [List.all_cons, Bool.and_eq_true] at h
    simp only [eqF] at hts
    split at hts
    · rename_i e
      cases hts
      have e := Nat.eq_of_beq_eq_true e
      have hb := h.1
      unfold eqB at hb
      rw [e] at hb
      split at hb
      · rename_i fs hfs
        simp only [Bool.and_eq_true, Bool.not_eq_true'] at hb
        exact ⟨fs, hfs, hb.1.1, hb.1.2, eqFB_ok _ _ _ hb.2⟩
      · cases hb
    · exact eqF_ok r t ts h.2 hts
theorem eqs_all {P : Program} {E : Env} {l : List (Nat × List Ty)} (he : ∀ t, E.eqT t = eqF l t) (h : l.all (eqB P) = true) : ∀ t, EqsOk P E t := fun t ts hts => eqF_ok l t ts h (by rw [← he]; exact hts)
theorem tiB_ok {P : Program} {E : Env} {t : TypeId} (h : tiB P E.ti t = true) (hq : EqsOk P E t) : TiOk P E t := by
  unfold tiB at h
  simp only [Bool.and_eq_true] at h
  obtain ⟨⟨⟨⟨hd, hfl⟩, hin⟩, hz⟩, hel⟩ := h
  have hstruct : (E.ti t).d = .struct → ∃ fs, P.underlying t = some (.struct fs) := by
    intro e
    rw [e] at hd
    unfold dOk at hd
    cases hu : P.underlying t with
    | none => rw [hu] at hd; cases hd
    | some d => rw [hu] at hd; cases d <;> first | exact ⟨_, rfl⟩ | (cases hd; done)
  have hflds : ∀ (f off size : Nat) (agg : Bool), (E.ti t).flds[f]? = some (off, size, agg) → ∃ fs : Array Field, P.underlying t = some (.struct fs) ∧ fB P fs.toList (E.ti t).flds = true ∧ plB P fs.toList = true := by
    intro f off size agg hf
    cases hl : (E.ti t).flds with
    | nil => rw [hl] at hf; simp at hf
    | cons a l =>
      rw [hl] at hfl
      simp only [] at hfl
      split at hfl
      · rename_i fs e
        simp only [Bool.and_eq_true] at hfl
        exact ⟨fs, e, hfl.1, hfl.2⟩
      · cases hfl
  have helem : ∀ e, elB P (E.ti e) e = true → ∃ i z, P.info? e = some i ∧ i.size = (E.ti e).ty.size ∧ i.bytes ≤ 1024 ∧ i.size = (E.ti e).size ∧ i.zero = some z ∧ (∀ F w, CR F w (E.ti e).ty (E.ti e).ty.dft z.cells.toList) := by
    intro e he
    unfold elB at he
    split at he
    · rename_i i hi
      simp only [Bool.and_eq_true] at he
      obtain ⟨⟨⟨h1, h2⟩, h3⟩, h4⟩ := he
      split at h4
      · rename_i z hz
        split at h4
        · rename_i hd
          refine ⟨i, z, hi, Nat.eq_of_beq_eq_true h1, Nat.le_of_ble_eq_true h2, Nat.eq_of_beq_eq_true h3, hz, fun F w => ?_⟩
          obtain ⟨us, e1, e2⟩ := dB_ok (F := F) (w := w) _ _ _ hd
          rw [List.append_nil] at e1
          rw [e1]; exact e2
        · cases h4
      · cases h4
    · cases he
  refine ⟨fun e he => ?_, fun n e he => ?_, fun k he => ?_, fun he => ?_, fun he => ?_, hstruct, fun f off size agg hf => ?_, fun hs => ?_, ?_, fun he => ?_, fun e he => ?_, fun e he hu => ?_, fun e he => ?_, fun k e he => ?_, fun he => ?_, hq⟩
  · rw [he] at hd
    unfold dOk at hd
    cases hu : P.underlying t with
    | none => rw [hu] at hd; cases hd
    | some d => rw [hu] at hd; cases d <;> first | (cases hd; done) | (rw [Nat.eq_of_beq_eq_true hd])
  · rw [he] at hd
    unfold dOk at hd
    cases hu : P.underlying t with
    | none => rw [hu] at hd; cases hd
    | some d =>
      rw [hu] at hd; cases d <;> first | (cases hd; done) | skip
      simp only [Bool.and_eq_true] at hd
      rw [Nat.eq_of_beq_eq_true hd.1, Nat.eq_of_beq_eq_true hd.2]
  · rw [he] at hd
    unfold dOk at hd
    cases hu : P.underlying t with
    | none => rw [hu] at hd; cases hd
    | some d =>
      rw [hu] at hd; cases d <;> first | (cases hd; done) | skip
      simp only [decide_eq_true_eq] at hd
      rw [hd]
  · rw [he] at hd
    unfold dOk at hd
    cases hu : P.underlying t with
    | none => rw [hu] at hd; cases hd
    | some d => rw [hu] at hd; cases d <;> first | (cases hd; done) | rfl
  · rw [he] at hd
    unfold dOk at hd
    cases hu : P.underlying t with
    | none => rw [hu] at hd; cases hd
    | some d => rw [hu] at hd; cases d <;> first | (cases hd; done) | rfl
  · obtain ⟨fs, h1, h2, h3⟩ := hflds f off size agg hf
    obtain ⟨fd, i, k1, k2, k3, k4, k5⟩ := fB_ok _ _ h2 f off size agg hf
    exact ⟨fs, fd, i, h1, by simpa using k1, k2, k3, k4, k5⟩
  · have hb : Nat.beq (E.ti t).size 1000000000 = false := by
      cases hb : Nat.beq (E.ti t).size 1000000000 with
      | true => exact absurd (Nat.eq_of_beq_eq_true hb) hs
      | false => rfl
    rw [hb] at hin
    simp only [] at hin
    split at hin
    · rename_i i a hi ha
      simp only [Bool.and_eq_true] at hin
      obtain ⟨⟨⟨h1, h2⟩, h3⟩, h4⟩ := hin
      split at h4
      · rename_i z hz
        have : a = (E.ti t).agg := by simpa using h3
        refine ⟨i, z, hi, Nat.eq_of_beq_eq_true h1, Nat.eq_of_beq_eq_true h2, this ▸ aggB_ok ha, hz, fun hl F w g => ?_⟩
        have hlb : Nat.beq (E.ti t).zero.length (E.ti t).size = true := by rw [hl]; exact Nat.beq_refl _
        rw [hlb] at h4
        exact zB_ok h4
      · cases h4
    · cases hin
  · simpa [Nat.blt_eq] using hz
  · obtain ⟨fs, hu⟩ := hstruct he
    have hpl : plB P fs.toList = true := by
      split at hfl
      · rw [he, hu] at hfl; exact hfl
      · rw [hu] at hfl
        simp only [Bool.and_eq_true] at hfl
        exact hfl.2
    refine ⟨fs, _, hu, places_ok hpl, fun f off size agg hf => ?_⟩
    obtain ⟨fs', h1, h2, h3⟩ := hflds f off size agg hf
    rw [hu] at h1
    cases h1
    obtain ⟨fd, i, k1, k2, k3, k4, k5⟩ := fB_ok _ _ h2 f off size agg hf
    have k1' : fs[f]? = some fd := by simpa using k1
    rw [Array.getElem?_map, k1']
    simp [Program.cellsOf, k3, k2, k4]
  · refine helem e ?_
    rcases he with he | ⟨n, he⟩ <;> (rw [he] at hel; exact (Bool.and_eq_true_iff.1 hel).1)
  · have : uB (E.ti e).ty e = true := by
      rcases he with he | ⟨n, he⟩ <;> (rw [he] at hel; exact (Bool.and_eq_true_iff.1 hel).2)
    rw [hu] at this
    exact Nat.eq_of_beq_eq_true this
  · rw [he] at hd
    unfold dOk at hd
    cases hu : P.underlying t with
    | none => rw [hu] at hd; cases hd
    | some d => rw [hu] at hd; cases d <;> first | (cases hd; done) | (rw [Nat.eq_of_beq_eq_true hd])
  · rw [he] at hd
    unfold dOk at hd
    cases hu : P.underlying t with
    | none => rw [hu] at hd; cases hd
    | some d =>
      rw [hu] at hd
      cases d <;> first | (cases hd; done) | skip
      simp only [Bool.and_eq_true] at hd
      rw [Nat.eq_of_beq_eq_true hd.1, Nat.eq_of_beq_eq_true hd.2]
  · rw [he] at hel
    simp only [] at hel
    split at hel
    · rename_i i hi
      split at hel
      · rename_i hz; exact ⟨i, hi, hz⟩
      · cases hel
    · cases hel
def Tr.all {α : Type} (p : Nat → α → Bool) : Tr α → Bool
  | .leaf => true
  | .node k v l r => p k v && (l.all p && r.all p)
theorem Tr.all_find {α : Type} {p : Nat → α → Bool} : ∀ (t : Tr α), t.all p = true → ∀ i v, t.find i = some v → p i v = true
  | .leaf, _, i, v, h => by cases h
  | .node k x l r, ha, i, v, h => by
    simp only [Tr.all, Bool.and_eq_true] at ha
    simp only [Tr.find] at h
    split at h
    · rename_i hk
      cases h
      rw [← Nat.eq_of_beq_eq_true hk]; exact ha.1
    · split at h
      · exact Tr.all_find l ha.2.1 i v h
      · exact Tr.all_find r ha.2.2 i v h
def noTI : TI := ⟨.other, false, 1000000000, 0, .unit, [], [], false⟩
theorem ti_all {P : Program} {E : Env} {T : Tr TI} (he : ∀ t, E.ti t = (T.find t).getD noTI) (h : T.all (fun t _ => tiB P E.ti t) = true) (hq : ∀ t, EqsOk P E t) : ∀ t, TiOk P E t := by
  intro t
  cases hf : T.find t with
  | some v => exact tiB_ok (Tr.all_find T h t v hf) (hq t)
  | none =>
    have ht : E.ti t = noTI := by rw [he, hf]; rfl
    refine ⟨fun e h => ?_, fun n e h => ?_, fun k h => ?_, fun h => ?_, fun h => ?_, fun h => ?_, fun f off size agg h => ?_, fun h => ?_, ?_, fun h => ?_, fun e h => ?_, fun e h hu => ?_, fun e h => ?_, fun k e h => ?_, fun h => ?_, hq t⟩
    all_goals first | (rw [ht] at h; cases h; done) | (rw [ht] at h; simp [noTI] at h; done) | (rw [ht]; decide)
inductive FiAll (P : Program) : Tr FI → Prop where
  | leaf : FiAll P .leaf
  | node {k : Nat} {v : FI} {l r : Tr FI} : P.funcs[k]? = some v.fn → (v.fn.body.isSome && !(v.fn.name == "runtime.NumGoroutine")) = true → FiAll P l → FiAll P r → FiAll P (.node k v l r)
theorem FiAll.find {P : Program} {T : Tr FI} (h : FiAll P T) : ∀ i v, T.find i = some v → P.funcs[i]? = some v.fn ∧ v.fn.body.isSome = true ∧ (v.fn.name == "runtime.NumGoroutine") = false := by
  induction h with
  | leaf => intro i v h; cases h
  | node h1 h2 _ _ ih1 ih2 =>
    intro i v h
    simp only [Tr.find] at h
    split at h
    · rename_i hk
      cases h
      rw [← Nat.eq_of_beq_eq_true hk]
      simp only [Bool.and_eq_true, Bool.not_eq_true'] at h2
      exact ⟨h1, h2.1, h2.2⟩
    · split at h
      · exact ih1 i v h
      · exact ih2 i v h
theorem fi_all {P : Program} {E : Env} {T : Tr FI} (he : ∀ f, E.fi f = T.find f) (h : FiAll P T) (hx : ∀ f x, E.xt f = some x → XtOne P E f x) : FiOk P E := ⟨fun f fi hf => h.find f fi (by rw [← he]; exact hf), hx⟩
theorem xtM {P : Program} {E : Env} {f : FuncId} {x : XT} (hm : x.model = true) (h : ∃ fn, P.funcs[f]? = some fn ∧ fn.body.isNone = true ∧ (fn.name == "runtime.NumGoroutine") = false ∧ Extern.findNext fn = none ∧ Extern.find fn = some (xtFn x)) : XtOne P E f x :=
  ⟨fun _ => h, fun h' => by rw [hm] at h'; cases h'⟩
inductive XtAll (P : Program) (E : Env) : List (Nat × XT) → Prop where
  | nil : XtAll P E []
  | cons {k : Nat} {x : XT} {l} : XtOne P E k x → XtAll P E l → XtAll P E ((k, x) :: l)
def xtOf (l : List (Nat × XT)) (f : Nat) : Option XT := match l with
  | [] => none
  | (k, x) :: r => match Nat.beq k f with
    | true => some x
    | false => xtOf r f
theorem XtAll.find {P : Program} {E : Env} {l : List (Nat × XT)} (h : XtAll P E l) : ∀ f x, xtOf l f = some x → XtOne P E f x := by
  induction h with
  | nil => intro f x h; cases h
  | cons h1 _ ih =>
    intro f x h
    simp only [xtOf] at h
    split at h
    · rename_i hk
      cases h
      rw [← Nat.eq_of_beq_eq_true hk]; exact h1
    · exact ih f x h
end Go.Proofs.YtmojilihllhadaaGreatDoor.Ev
