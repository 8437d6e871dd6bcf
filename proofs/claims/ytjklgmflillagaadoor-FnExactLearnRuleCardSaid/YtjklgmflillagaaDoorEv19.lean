/- The walk of a function's body. -/
import Derived.Test.YtjklgmflillagaaDoorEv18
namespace Go.Proofs.YtjklgmflillagaaDoor.Ev
open Go Go.RowKit
set_option linter.unusedVariables false
set_option linter.unusedSimpArgs false

section
variable {α : Type} {P : Program} {E : Env} {B : Nat → Prop} {F : Fz} {g : List GE} {w : World} {H : Hp}

theorem run_mapM {β : Type} (f : β → Sem Value) : ∀ (l : List β) (us : List Value), All2 (fun x u => (f x).run P w = .ok u w) l us → (l.mapM f).run P w = .ok us w
  | [], _, h => by cases h; rfl
  | x :: l, _, h => by
    cases h with
    | cons h1 h2 =>
      rw [List.mapM_cons]
      simp only [Sem.run_bind, h1, Result.andThen, run_mapM f l _ h2, Sem.run_pure]

theorem resList_ok (hE : ∀ t, TiOk P E t) {ts : List AV} {a : Act} (hs : St B F g w H ts a) : ∀ (rs : List ResultVar) (vs : List AV), resList E ts H rs = some vs →
    ∃ us, All2 (VR1 F w g) vs us ∧ All2 (fun (x : ResultVar) u => ((match x with | .tmp t => pure (a.tmps.getD t undef) | .cell ad t => do loadVar t (← asAddr (a.tmps.getD ad undef))) : Sem Value).run P w = .ok u w) rs us
  | [], vs, h => by cases h; exact ⟨[], .nil, .nil⟩
  | .tmp t :: r, vs, h => by
    simp only [resList] at h
    split at h
    · rename_i l hnt hl
      cases h
      obtain ⟨us, h1, h2⟩ := resList_ok hE hs r l hl
      have : VR2 F w g (ts.getD t .top) (a.tmps.getD t undef) := by
        cases ht : ts[t]? with
        | none => simp [List.getD, ht]; exact trivial
        | some v =>
          obtain ⟨u, hu, hv⟩ := hs.tmps.get t v ht
          have hu' : a.tmps[t]? = some u := by simpa using hu
          simp only [List.getD, ht, Option.getD_some, Array.getD_eq_getD_getElem?, hu']
          exact hv
      exact ⟨_ :: us, .cons (VR2_1 this fun cs e => by rw [e] at hnt; cases hnt) h1, .cons rfl h2⟩
    · cases h
  | .cell ad t :: r, vs, h => by
    simp only [resList] at h
    split at h
    · rename_i v l hsm hv hl
      cases h
      obtain ⟨us, h1, h2⟩ := resList_ok hE hs r l hl
      have hne : (E.ti t).size ≠ 1000000000 := by
        have : (E.ti t).size < 1000000000 := Nat.le_of_ble_eq_true hsm
        omega
      have hp : ∃ y, ts[ad]? = some y := by
        cases ht : ts[ad]? with
        | none => simp [List.getD, ht, loadP] at hv
        | some y => exact ⟨y, rfl⟩
      obtain ⟨y, hy⟩ := hp
      obtain ⟨u, hu, hyu⟩ := hs.tmps.get ad y hy
      have hu' : a.tmps[ad]? = some u := by simpa using hu
      simp only [List.getD, hy, Option.getD_some] at hv
      have hy0 : VR0 F w g y u := by cases y <;> first | exact hyu | (simp [loadP] at hv)
      obtain ⟨b, off, cs, hue, hl', hc, m1, m2⟩ := loadP_ok hv hy0 hs.heap
      obtain ⟨i, z, e1, e2, e3, e4, e5, e6⟩ := (hE t).info hne
      obtain ⟨q, hr, hq⟩ := loadVar_ok e1 (by rw [e2, hl']) e4 hc m1 m2
      refine ⟨q :: us, .cons hq h1, .cons ?_ h2⟩
      show (do loadVar t (← asAddr (a.tmps.getD ad undef)) : Sem Value).run P w = _
      rw [Array.getD_eq_getD_getElem?, hu', Option.getD_some, hue]
      simp only [asAddr, Sem.run_bind, Sem.run_pure, Result.andThen]
      exact hr
    · cases h

theorem results_ok (hE : ∀ t, TiOk P E t) {ts : List AV} {a : Act} (hs : St B F g w H ts a) {fn : Func} {vs : List AV} (h : resList E ts H fn.results.toList = some vs) :
    ∃ v, (results fn a.tmps).run P w = .ok v w ∧ VR2 F w g (one vs) v := by
  obtain ⟨us, h1, h2⟩ := resList_ok hE hs _ _ h
  have hm := run_mapM (P := P) (w := w) _ _ _ h2
  have hlen := h1.length
  have hkey : ∃ v, (results fn a.tmps).run P w = .ok v w ∧ v = (if h : us.toArray.size = 1 then us.toArray[0] else .tuple us.toArray) := by
    refine ⟨_, ?_, rfl⟩
    unfold results
    rw [Array.mapM_eq_mapM_toList]
    simp only [map_eq_pure_bind, bind_assoc, pure_bind, Sem.run_bind]
    refine (congrArg (fun (r : Result (List Value)) => r.andThen fun l w => (pure (if h : l.toArray.size = 1 then l.toArray[0] else .tuple l.toArray) : Sem Value).run P w) hm).trans ?_
    rfl
  obtain ⟨v, hv, rfl⟩ := hkey
  refine ⟨_, hv, ?_⟩
  cases h1 with
  | nil => exact ⟨_, rfl, .nil⟩
  | cons p q =>
    cases q with
    | nil => simpa [one] using VR1_2 p
    | cons p' q' =>
      exact ⟨_, by simp, .cons p (.cons p' q')⟩

/-- From here on a walk that ends so. -/
def Runs (P : Program) (f : FuncId) (todo : List Item) (a : Act) (w : World) (R : Ending → World → Prop) : Prop :=
  ∀ (b : Frame) (cs : List Frame), b.fn = f → b.kind = .normal → ∃ e w' fr, R e w' ∧ Comes P (lone (b.at a todo) cs w) (lone fr cs w') e ∧ fr.fn = f ∧ fr.leaving P w' e

theorem Runs.step {f : FuncId} {todo todo' : List Item} {a a' : Act} {w w' : World} {R : Ending → World → Prop}
    (h : ∀ (b : Frame) (cs : List Frame), b.kind = .normal → step P (lone (b.at a todo) cs w) = .next (lone (b.at a' todo') cs w')) (k : Runs P f todo' a' w' R) : Runs P f todo a w R := by
  intro b cs hb hk
  obtain ⟨e, w'', fr, h1, h2, h3, h4⟩ := k b cs hb hk
  exact ⟨e, w'', fr, h1, Comes.of_steps (.one (h b cs hk)) h2, h3, h4⟩

theorem Runs.region {f : FuncId} {c : Code} {k : List Item} {a : Act} {w : World} {R : Ending → World → Prop} {Post : Act → World → Prop}
    (h : c.wp P (fun e a w => e = .normal ∧ Post a w) a w) (hk : ∀ a' w', Post a' w' → Runs P f k a' w' R) : Runs P f (.code c :: k) a w R := by
  intro b cs hb hkd
  obtain ⟨e, a', w', ⟨he, hp⟩, harr⟩ := h b k cs
  subst he
  obtain ⟨e', w'', fr, h1, h2, h3, h4⟩ := hk a' w' hp b cs hb hkd
  exact ⟨e', w'', fr, h1, Comes.of_steps harr h2, h3, h4⟩

theorem Runs.calls {f : FuncId} {fn : Func} {c : Code} {args : Array Value} {w : World} {R : Ending → World → Prop} (hf : P.funcs[f]? = some fn) (hb : fn.body = some c)
    (h : Runs P f [.code c] { tmps := args ++ Array.replicate (fn.ntmps - args.size) undef, defers := [] } w R) : Calls P f args w R := by
  intro cs
  let b : Frame := { (default : Frame) with fn := f, kind := .normal }
  have henter : Frame.enter P f args .normal = b.at { tmps := args ++ Array.replicate (fn.ntmps - args.size) undef, defers := [] } [.code c] := by
    simp [Frame.enter, Frame.at, hf, hb, b]
  rw [henter]
  exact h b cs rfl rfl
end
end Go.Proofs.YtjklgmflillagaaDoor.Ev
