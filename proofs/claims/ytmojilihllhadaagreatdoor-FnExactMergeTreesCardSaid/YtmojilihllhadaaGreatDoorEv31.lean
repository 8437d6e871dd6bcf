/- The evaluator: Ev19, Ev23, Ev25, Ev26, Ev27, Ev28, Ev29, Ev30, Ev31. -/
import Derived.Test.YtmojilihllhadaaGreatDoorEv18
/- The walk of a function's body. -/
namespace Go.Proofs.YtmojilihllhadaaGreatDoor.Ev
open Go Go.RowKit
set_option linter.unusedVariables false
set_option linter.unusedSimpArgs false
section
variable {α : Type} {P : Program} {E : Env} {B : Nat → Prop} {F : Fz} {g : List GE} {w : World} {H : Hp}
theorem run_mapM {β : Type} (f : β → Sem Value) : ∀ (l : List β) (us : List Value), All2 (fun x u => (f x).run P w = .ok u w) l us → (l.mapM f).run P w = .ok us w
  | [], _, h => by cases h; rfl
  | x :: l, _, h => by
    cases h with
    | cons h1 h2 =>
      rw [List.mapM_cons]
      simp only [Sem.run_bind, h1, Result.andThen, run_mapM f l _ h2, Sem.run_pure]
theorem resList_ok (hE : ∀ t, TiOk P E t) {ts : List AV} {a : Act} (hs : St B F g w H ts a) : ∀ (rs : List ResultVar) (vs : List AV), resList E ts H rs = some vs →
    ∃ us, All2 (VR1 F w g) vs us ∧ All2 (fun (x : ResultVar) u => ((match x with | .tmp t => pure (a.tmps.getD t undef) | .cell ad t => do loadVar t (← asAddr (a.tmps.getD ad undef))) : Sem Value).run P w = .ok u w) rs us
  | [], vs, h => by cases h; exact ⟨[], .nil, .nil⟩
  | .tmp t :: r, vs, h => by
    simp only [resList] at h
    split at h
    · rename_i l hnt hl
      cases h
      obtain ⟨us, h1, h2⟩ := resList_ok hE hs r l hl
      have : VR2 F w g (ts.getD t .top) (a.tmps.getD t undef) := by
        cases ht : ts[t]? with
        | none => simp [List.getD, ht]; exact trivial
        | some v =>
          obtain ⟨u, hu, hv⟩ := hs.tmps.get t v ht
          have hu' : a.tmps[t]? = some u := by simpa using hu
          simp only [List.getD, ht, Option.getD_some, Array.getD_eq_getD_getElem?, hu']
          exact hv
      exact ⟨_ :: us, .cons (VR2_1 this fun cs e => by rw [e] at hnt; cases hnt) h1, .cons rfl h2⟩
    · cases h
  | .cell ad t :: r, vs, h => by
    simp only [resList] at h
    split at h
    · rename_i v l hsm hv hl
      cases h
      obtain ⟨us, h1, h2⟩ := resList_ok hE hs r l hl
      have hne : (E.ti t).size ≠ 1000000000 := by
        have : (E.ti t).size < 1000000000 := Nat.le_of_ble_eq_true hsm
        omega
      have hp : ∃ y, ts[ad]? = some y := by
        cases ht : ts[ad]? with
        | none => simp [List.getD, ht, loadP] at hv
        | some y => exact ⟨y, rfl⟩
      obtain ⟨y, hy⟩ := hp
      obtain ⟨u, hu, hyu⟩ := hs.tmps.get ad y hy
      have hu' : a.tmps[ad]? = some u := by simpa using hu
      simp only [List.getD, hy, Option.getD_some] at hv
      have hy0 : VR0 F w g y u := by cases y <;> first | exact hyu | (simp [loadP] at hv)
      obtain ⟨b, off, cs, hue, hl', hc, m1, m2⟩ := loadP_ok hv hy0 hs.heap
      obtain ⟨i, z, e1, e2, e3, e4, e5, e6⟩ := (hE t).info hne
      obtain ⟨q, hr, hq⟩ := loadVar_ok e1 (by rw [e2, hl']) e4 hc m1 m2
      refine ⟨q :: us, .cons hq h1, .cons ?_ h2⟩
      show (do loadVar t (← asAddr (a.tmps.getD ad undef)) : Sem Value).run P w = _
      rw [Array.getD_eq_getD_getElem?, hu', Option.getD_some, hue]
      simp only [asAddr, Sem.run_bind, Sem.run_pure, Result.andThen]
      exact hr
    · cases h
theorem results_ok (hE : ∀ t, TiOk P E t) {ts : List AV} {a : Act} (hs : St B F g w H ts a) {fn : Func} {vs : List AV} (h : resList E ts H fn.results.toList = some vs) :
    ∃ v, (results fn a.tmps).run P w = .ok v w ∧ VR2 F w g (one vs) v := by
  obtain ⟨us, h1, h2⟩ := resList_ok hE hs _ _ h
  have hm := run_mapM (P := P) (w := w) _ _ _ h2
  have hlen := h1.length
  have hkey : ∃ v, (results fn a.tmps).run P w = .ok v w ∧ v = (if h : us.toArray.size = 1 then us.toArray[0] else .tuple us.toArray) := by
    refine ⟨_, ?_, rfl⟩
    unfold results
    rw [Array.mapM_eq_mapM_toList]
    simp only [map_eq_pure_bind, bind_assoc, pure_bind, Sem.run_bind]
    refine (congrArg (fun (r : Result (List Value)) => r.andThen fun l w => (pure (if h : l.toArray.size = 1 then l.toArray[0] else .tuple l.toArray) : Sem Value).run P w) hm).trans ?_
    rfl
  obtain ⟨v, hv, rfl⟩ := hkey
  refine ⟨_, hv, ?_⟩
  cases h1 with
  | nil => exact ⟨_, rfl, .nil⟩
  | cons p q =>
    cases q with
    | nil => simpa [one] using VR1_2 p
    | cons p' q' =>
      exact ⟨_, by simp, .cons p (.cons p' q')⟩
def Runs (P : Program) (f : FuncId) (todo : List Item) (a : Act) (w : World) (R : Ending → World → Prop) : Prop :=
  ∀ (b : Frame) (cs : List Frame), b.fn = f → b.kind = .normal → ∃ e w' fr, R e w' ∧ Comes P (lone (b.at a todo) cs w) (lone fr cs w') e ∧ fr.fn = f ∧ fr.leaving P w' e
theorem Runs.step {f : FuncId} {todo todo' : List Item} {a a' : Act} {w w' : World} {R : Ending → World → Prop}
    (h : ∀ (b : Frame) (cs : List Frame), b.kind = .normal → step P (lone (b.at a todo) cs w) = .next (lone (b.at a' todo') cs w')) (k : Runs P f todo' a' w' R) : Runs P f todo a w R := by
  intro b cs hb hk
  obtain ⟨e, w'', fr, h1, h2, h3, h4⟩ := k b cs hb hk
  exact ⟨e, w'', fr, h1, Comes.of_steps (.one (h b cs hk)) h2, h3, h4⟩
theorem Runs.region {f : FuncId} {c : Code} {k : List Item} {a : Act} {w : World} {R : Ending → World → Prop} {Post : Act → World → Prop}
    (h : c.wp P (fun e a w => e = .normal ∧ Post a w) a w) (hk : ∀ a' w', Post a' w' → Runs P f k a' w' R) : Runs P f (.code c :: k) a w R := by
  intro b cs hb hkd
  obtain ⟨e, a', w', ⟨he, hp⟩, harr⟩ := h b k cs
  subst he
  obtain ⟨e', w'', fr, h1, h2, h3, h4⟩ := hk a' w' hp b cs hb hkd
  exact ⟨e', w'', fr, h1, Comes.of_steps harr h2, h3, h4⟩
theorem Runs.calls {f : FuncId} {fn : Func} {c : Code} {args : Array Value} {w : World} {R : Ending → World → Prop} (hf : P.funcs[f]? = some fn) (hb : fn.body = some c)
    (h : Runs P f [.code c] { tmps := args ++ Array.replicate (fn.ntmps - args.size) undef, defers := [] } w R) : Calls P f args w R := by
  intro cs
  let b : Frame := { (default : Frame) with fn := f, kind := .normal }
  have henter : Frame.enter P f args .normal = b.at { tmps := args ++ Array.replicate (fn.ntmps - args.size) undef, defers := [] } [.code c] := by
    simp [Frame.enter, Frame.at, hf, hb, b]
  rw [henter]
  exact h b cs rfl rfl
end
end Go.Proofs.YtmojilihllhadaaGreatDoor.Ev
/- What is done to slots at a cut. -/
namespace Go.Proofs.YtmojilihllhadaaGreatDoor.Ev
open Go Go.RowKit
set_option linter.unusedVariables false
set_option linter.unusedSimpArgs false
section
variable {P : Program} {E : Env} {B : Nat → Prop} {F : Fz} {g : List GE} {w : World} {H : Hp}
theorem goCut_ok {α : Type} {goto : List Item → List AV → Hp → Option α} {live : List Nat} {as : List (Nat × Option Nat × Act1)} {todo : List Item} {ts : List AV} {a : Act} {x : α}
    {m : Nat} (h : goCut goto m live as todo ts H = some x) (hs : St B F g w H ts a) :
    ∃ ts' H' F' g', goto todo ts' H' = some x ∧ St B F' g' w H' ts' a ∧ Gr B F [] w F' [] w ∧ (m ≤ g.length → ∀ i e, i < m → g[i]? = some e → g'[i]? = some e) := by
  unfold goCut at h
  split at h
  · rename_i ts1 H1 hact
    obtain ⟨F1, g1, h1, h2⟩ := acts_ok as ts ts1 H H1 F g hact hs
    refine ⟨_, _, F1, _, h, renumber_ok h2 _ live _, ⟨h1.up, h1.new, h1.cell, fun _ _ h => h, h1.below⟩, fun hm i e hi he => ?_⟩
    have he1 := h1.ext i e he
    have hg1 : m ≤ g1.length := by
      rcases Nat.eq_zero_or_pos m with rfl | hpos
      · exact Nat.zero_le _
      · have hl : g[m - 1]? = some (g[m - 1]'(by omega)) := List.getElem?_eq_getElem (by omega)
        have := idx_lt (h1.ext _ _ hl)
        omega
    rw [reG_first H1 m _ hg1 i hi]; exact he1
  · cases h
end
end Go.Proofs.YtmojilihllhadaaGreatDoor.Ev
/- What an operation yields does not hang on what comes behind it. -/
namespace Go.Proofs.YtmojilihllhadaaGreatDoor.Ev
open Go Go.RowKit
set_option linter.unusedVariables false
set_option linter.unusedSimpArgs false
section
variable {α β : Type} {E : Env} {H : Hp}
theorem cond_nat {b : Bool} {x y : Option α} {f : α → Option β} : (cond b x y).bind f = cond b (x.bind f) (y.bind f) := by cases b <;> rfl
theorem intOp_nat {op : BinOp} {k : IntKind} {a b : Int} {K : AV → Option α} {f : α → Option β} : (intOp op k a b K).bind f = intOp op k a b (fun v => (K v).bind f) := by
  cases op <;> simp only [intOp, cond_nat, Option.bind_none]
theorem strOp_nat {op : BinOp} {a b : ByteArray} {K : AV → Option α} {f : α → Option β} : (strOp op a b K).bind f = strOp op a b (fun v => (K v).bind f) := by
  cases op <;> simp only [strOp, cond_nat, Option.bind_none]
theorem binOpK_nat {op : BinOp} {t : TypeId} {x y : AV} {K : AV → Option α} {f : α → Option β} : (binOpK E op t x y K).bind f = binOpK E op t x y (fun v => (K v).bind f) := by
  unfold binOpK
  split
  · split
    · simp only [cond_nat, Option.bind_none]
    · simp only [cond_nat, Option.bind_none]
    · split
      · exact intOp_nat
      · rfl
  · exact strOp_nat
  · split <;> rfl
  · split
    · split <;> rfl
    · split <;> rfl
    · rfl
  · rfl
theorem boundsK_nat {n : Nat} {lo hi : Option AV} {K : Nat → Nat → Option α} {f : α → Option β} : (boundsK n lo hi K).bind f = boundsK n lo hi (fun a b => (K a b).bind f) := by
  unfold boundsK
  split
  · split
    · rfl
    · simp only [cond_nat, Option.bind_none]
    · rfl
  · simp only [cond_nat, Option.bind_none]
    congr 1
    split
    · rfl
    · simp only [cond_nat, Option.bind_none]
    · rfl
  · rfl
theorem sliceK_nat {sz : Nat} {x : AV} {lo hi mx : Option AV} {K : AV → Option α} {f : α → Option β} : (sliceK sz x lo hi mx K).bind f = sliceK sz x lo hi mx (fun v => (K v).bind f) := by
  unfold sliceK
  split
  · split
    · split <;> rfl
    · rfl
  · rfl
  · split
    · split
      · exact boundsK_nat
      · rfl
    · exact boundsK_nat
    · split
      · exact boundsK_nat
      · rfl
    · split
      · exact boundsK_nat
      · rfl
    · rfl
theorem idxK_nat {sz : Nat} {x : AV} {i : Int} {K : AV → Option α} {f : α → Option β} : (idxK sz x i K).bind f = idxK sz x i (fun v => (K v).bind f) := by
  unfold idxK
  split <;> first
    | rfl
    | (split
       · simp only [cond_nat, Option.bind_none]
       · rfl)
theorem idxA_nat {n sz : Nat} {x : AV} {i : Int} {K : AV → Option α} {f : α → Option β} : (idxA n sz x i K).bind f = idxA n sz x i (fun v => (K v).bind f) := by
  unfold idxA
  split
  · split
    · simp only [cond_nat, Option.bind_none]
    · rfl
  · rfl
theorem arrK_nat {sz : Nat} {t : Ty} {n : Nat} {cs : List AV} {K : AV → Hp → Option α} {f : α → Option β} : (arrK sz t n cs H K).bind f = arrK sz t n cs H (fun v H => (K v H).bind f) := by
  unfold arrK
  split <;> rfl
theorem convertK_nat {s d : TypeId} {x : AV} {K : AV → Hp → Option α} {f : α → Option β} : (convertK E s d x H K).bind f = convertK E s d x H (fun v H => (K v H).bind f) := by
  unfold convertK
  split
  · rfl
  · rfl
  · split <;> rfl
  · rfl
theorem threeK_nat {x mx : AV} {lo hi : Option AV} {K : AV → Option α} {f : α → Option β} : (threeK x lo hi mx K).bind f = threeK x lo hi mx (fun v => (K v).bind f) := by
  unfold threeK
  split
  · simp only [cond_nat, Option.bind_none]
  · simp only [cond_nat, Option.bind_none]
  · rfl
theorem appendK_nat {t : Ty} {s x : AV} {K : AV → Hp → Option α} {f : α → Option β} : (appendK t s x H K).bind f = appendK t s x H (fun v H => (K v H).bind f) := by
  unfold appendK
  split
  · rfl
  · split
    · simp only [cond_nat, Option.bind_none]
    · split
      · split
        · simp only [cond_nat, Option.bind_none]
        · rfl
      · rfl
    · split
      · split
        · simp only [cond_nat, Option.bind_none]
        · rfl
      · rfl
    · rfl
theorem appendL_nat {t : Ty} {s : AV} {xs : List t.den} {K : AV → Hp → Option α} {f : α → Option β} : (appendL t s xs H K).bind f = appendL t s xs H (fun v H => (K v H).bind f) := by
  unfold appendL
  split
  · simp only [cond_nat, Option.bind_none]
  · split
    · split
      · simp only [cond_nat, Option.bind_none]
      · rfl
    · rfl
  · split
    · split
      · simp only [cond_nat, Option.bind_none]
      · rfl
    · rfl
  · rfl
theorem ustrK_nat {pt : TypeId} {p : AV} {n : Int} {K : AV → Hp → Option α} {f : α → Option β} : (ustrK E pt p n H K).bind f = ustrK E pt p n H (fun v H => (K v H).bind f) := by
  unfold ustrK
  split
  · split
    · split
      · simp only [cond_nat, Option.bind_none]
      · split
        · split
          · simp only [cond_nat, Option.bind_none]
          · rfl
        · rfl
      · rfl
    · rfl
  · rfl
theorem clearK_nat {t : Ty} {x : AV} {K : AV → Hp → Option α} {f : α → Option β} : (clearK t x H K).bind f = clearK t x H (fun v H => (K v H).bind f) := by
  unfold clearK
  split
  · rfl
  · split
    · split <;> rfl
    · rfl
  · split
    · split <;> rfl
    · rfl
  · rfl
theorem minMaxK_nat {mx : Bool} {vs : List AV} {K : AV → Option α} {f : α → Option β} : (minMaxK mx vs K).bind f = minMaxK mx vs (fun v => (K v).bind f) := by
  unfold minMaxK
  split
  · split <;> rfl
  · rfl
theorem builtinK_nat {b : Builtin} {as : Array TypeId} {vs : List AV} {K : AV → Hp → Option α} {f : α → Option β} : (builtinK E b as vs H K).bind f = builtinK E b as vs H (fun v H => (K v H).bind f) := by
  unfold builtinK
  split
  · split
    · split
      · split
        · split <;> rfl
        · split <;> rfl
        · rfl
      · rfl
    · rfl
  · split
    · split
      · exact appendK_nat
      · split
        · exact appendL_nat
        · rfl
      · rfl
    · rfl
  · split
    · split
      · exact clearK_nat
      · rfl
    · rfl
  · unfold sliceDataK
    split
    · rfl
    · simp only [cond_nat, Option.bind_none]
    · rfl
  · split
    · exact ustrK_nat
    · rfl
  · exact minMaxK_nat
  · exact minMaxK_nat
  · rfl
theorem opK_nat {o : Op} (hn : nilOp o = false) {ρ : Operand → AV} {K : AV → Hp → Option α} {f : α → Option β} : (opK E o ρ H K).bind f = opK E o ρ H (fun v H => (K v H).bind f) := by
  cases o with
  | pick c a b =>
    simp only [opK]
    split
    · simp only [cond_nat]
    · rfl
  | binOp op t x y yt =>
    simp only [opK]
    split
    · cases hn
    · exact binOpK_nat
  | convert s d x => simp only [opK]; exact convertK_nat
  | slice t x lo hi mx =>
    simp only [opK]
    split
    · split
      · exact sliceK_nat
      · exact sliceK_nat
      · exact threeK_nat
    · split
      · exact boundsK_nat
      · rfl
    · rfl
  | indexAddr t x i =>
    simp only [opK]
    split
    · exact idxK_nat
    · exact idxA_nat
    · rfl
  | alloc t =>
    simp only [opK]
    split
    · split
      · exact arrK_nat
      · rfl
    · split <;> rfl
  | box t x =>
    simp only [opK]
    split
    · split
      · exact arrK_nat
      · rfl
    · split <;> rfl
  | index t x i =>
    simp only [opK]
    split
    · simp only [cond_nat, Option.bind_none]
    · split
      · simp only [cond_nat, Option.bind_none]
      · split
        · simp only [cond_nat, Option.bind_none]
        · rfl
    · rfl
  | makeSlice t l c =>
    simp only [opK]
    split
    · simp only [cond_nat, Option.bind_none]
    · rfl
  | makeMap t r =>
    cases r with
    | none => simp only [opK]; split <;> rfl
    | some r => rfl
  | lookup t x i c =>
    cases c with
    | false => simp only [opK]; (repeat' split) <;> rfl
    | true => rfl
  | _ => simp only [opK] <;> (repeat' split) <;> rfl
end
end Go.Proofs.YtmojilihllhadaaGreatDoor.Ev
/- One operation, calls too, told without what comes behind it. -/
namespace Go.Proofs.YtmojilihllhadaaGreatDoor.Ev
open Go Go.RowKit
set_option linter.unusedVariables false
set_option linter.unusedSimpArgs false
section
variable {α : Type} {P : Program} {E : Env} {B : Nat → Prop} {F : Fz} {g : List GE} {w : World} {H : Hp}
noncomputable def opStep (E : Env) (call : (g : FuncId) → List AV → Hp → Option (Ret E g)) (o : Oper) (ts : List AV) (H : Hp) : Option (AV × Hp) :=
  match o.op with
  | .call c => match c.callee with
    | .builtin b => builtinK E b c.argTypes (c.args.toList.map (opnd E ts)) H fun v H => some (v, H)
    | .value f => match opnd E ts f with
      | .fn k caps => match E.fi k with
        | some gi => match gi.inl with
          | true => none
          | false => match gi.take with
            | false => match caps, argsOk H (c.args.toList.map (opnd E ts)) && (backOf E k).isEmpty with
              | [], true => (call k ((c.args.toList.map (opnd E ts)).map (lendArg H)) []).bind fun x =>
                some (one (retVals gi.own (rtsOf E k) (rFst (rtsOf E k) (backOf E k) x) H.length).1, afterCall gi.own (rtsOf E k) (c.args.toList.map (opnd E ts)) H ++ (retVals gi.own (rtsOf E k) (rFst (rtsOf E k) (backOf E k) x) H.length).2)
              | _, _ => none
            | true => match caps, takeJob gi.ptr (backOf E k) (c.args.toList.map (opnd E ts)) H with
              | [], some (av, Hc, H', π) => (call k av Hc).bind fun x => some (takeBack gi.own (rtsOf E k) (backOf E k) x H' π)
              | _, _ => none
        | none => match E.xt k, caps with
          | some x, [] => extK x (c.args.toList.map (opnd E ts)) H fun v H => some (v, H)
          | _, _ => none
      | _ => none
    | _ => none
  | op => opK E op (opnd E ts) H fun v H => some (v, H)
theorem opsK_step {call : (g : FuncId) → List AV → Hp → Option (Ret E g)} {inl : FI → List AV → Hp → Fin α → Option α} {ops : Array Oper} {i : Nat} {r : List Nat} {ts : List AV} {K : List AV → Hp → Option α} {o : Oper} (ho : ops[i]? = some o) (hn : nilOp o.op = false) (hI : mayInl E o.op = false) :
    opsK E call inl ops (i :: r) ts H K = guardOf ops ts o
      ((opStep E call o ts H).bind fun p => opsK E call inl ops r (put ts o.dst p.1) p.2 K)
      (opsK E call inl ops r (put ts o.dst (.raw undef)) H K) := by
  simp only [opsK, ho, guardS_eq]
  congr 1
  unfold opStep
  cases hop : o.op with
  | call c =>
    simp only []
    cases hc : c.callee with
    | builtin b => simp only []; rw [builtinK_nat]; rfl
    | value f =>
      simp only []
      cases hf : opnd E ts f with
      | fn k caps =>
        simp only []
        cases hg : E.fi k with
        | none =>
          simp only []
          cases E.xt k with
          | none => rfl
          | some x =>
            cases caps with
            | nil => simp only []; rw [extK_nat]; rfl
            | cons a b => rfl
        | some gi =>
          cases hi : gi.inl with
          | true =>
            exfalso
            rw [hop] at hI
            simp only [mayInl, hc] at hI
            cases f with
            | func g' =>
              simp only [opnd] at hf
              cases hf
              simp only [hg, hi] at hI
              cases hI
            | _ => cases hI
          | false =>
            cases caps with
            | nil =>
              simp only [hi]
              cases gi.take with
              | false =>
                simp only []
                cases argsOk H (c.args.toList.map (opnd E ts)) && (backOf E k).isEmpty with
                | true => simp only []; rw [Option.bind_assoc]; rfl
                | false => rfl
              | true =>
                simp only []
                cases takeJob gi.ptr (backOf E k) (c.args.toList.map (opnd E ts)) H with
                | some p => obtain ⟨av, Hc, H', π⟩ := p; simp only []; rw [Option.bind_assoc]; rfl
                | none => rfl
            | cons a b => simp only [hi]; cases gi.take <;> rfl
      | _ => rfl
    | invoke a b => rfl
  | _ => simp only []; rw [opK_nat (by rw [hop] at hn; exact hn)]; rfl
end
end Go.Proofs.YtmojilihllhadaaGreatDoor.Ev
/- Operations that only look: what their order may be. -/
namespace Go.Proofs.YtmojilihllhadaaGreatDoor.Ev
open Go Go.RowKit
set_option linter.unusedVariables false
set_option linter.unusedSimpArgs false
section
variable {α : Type} {P : Program} {E : Env} {B : Nat → Prop} {F : Fz} {g : List GE} {w : World} {H : Hp}
theorem collapse_noSl {H H2 : Hp} : (t : Ty) → (cs : List AV) → t.hasSl = false → collapse H t cs = collapse H2 t cs
  | .int k, cs, _ => by cases cs with
    | nil => rfl
    | cons v r => cases v <;> rfl
  | .bool, cs, _ => by cases cs with
    | nil => rfl
    | cons v r => cases v <;> rfl
  | .str, cs, _ => by cases cs with
    | nil => rfl
    | cons v r => cases v <;> rfl
  | .unit, cs, _ => by cases cs <;> rfl
  | .sl t, cs, h => by cases h
  | .st t, cs, h => by simp only [collapse]; exact collapse_noSl t cs h
  | .pair a b, cs, h => by
    simp only [Ty.hasSl, Bool.or_eq_false_iff] at h
    simp only [collapse]
    rw [collapse_noSl (H2 := H2) a cs h.1]
    split
    · rw [collapse_noSl (H2 := H2) b _ h.2]
    · rfl
theorem asTy_noSl {H H2 : Hp} {t : Ty} {v : AV} (h : t.hasSl = false) : asTy H t v = asTy H2 t v := by
  unfold asTy
  rw [collapse_noSl (H2 := H2) t _ h]
theorem partsTy_noSl {H H2 : Hp} {t : Ty} {ρ : Operand → AV} (h : t.hasSl = false) : ∀ l : List (Nat × Operand), partsTy H t ρ l = partsTy H2 t ρ l
  | [] => rfl
  | (i, x) :: r => by
    simp only [partsTy]
    rw [asTy_noSl (H2 := H2) h, partsTy_noSl (H2 := H2) h r]
theorem ownIds_noSl {H : Hp} : (t : Ty) → (cs : List AV) → (x : t.den) → (r : List AV) → t.hasSl = false → collapse H t cs = some (x, r) → ownIds cs = ownIds r
  | .int k, cs, x, r, _, h => by
    cases cs with
    | nil => cases h
    | cons v s =>
      cases v with
      | int k' y =>
        simp only [collapse] at h
        split at h
        · cases h; rfl
        · cases h
      | _ => cases h
  | .bool, cs, x, r, _, h => by
    cases cs with
    | nil => cases h
    | cons v s => cases v <;> first | (cases h; done) | (cases h; rfl)
  | .str, cs, x, r, _, h => by
    cases cs with
    | nil => cases h
    | cons v s => cases v <;> first | (cases h; done) | (cases h; rfl)
  | .unit, cs, x, r, _, h => by cases cs <;> (cases h; rfl)
  | .sl t, cs, x, r, h', h => by cases h'
  | .st t, cs, x, r, h', h => by simp only [collapse] at h; exact ownIds_noSl t cs x r h' h
  | .pair a b, cs, x, r, h', h => by
    simp only [Ty.hasSl, Bool.or_eq_false_iff] at h'
    simp only [collapse] at h
    split at h
    · rename_i y r1 h1
      split at h
      · rename_i z r2 h2
        cases h
        rw [ownIds_noSl a cs y r1 h'.1 h1, ownIds_noSl b r1 z _ h'.2 h2]
      · cases h
    · cases h
theorem ownIds_asTy {H : Hp} {t : Ty} {v : AV} {x : t.den} (h' : t.hasSl = false) (h : asTy H t v = some x) : ownIds (cellsOf v) = [] := by
  unfold asTy at h
  split at h
  · rename_i y _ h2
    exact ownIds_noSl t _ y [] h' h2
  · cases h
theorem ownIds_parts {H : Hp} {t : Ty} {ρ : Operand → AV} (h' : t.hasSl = false) : ∀ (l : List (Nat × Operand)) (ps : List (Nat × t.den)), partsTy H t ρ l = some ps → ownIds (l.flatMap fun p => cellsOf (ρ p.2)) = []
  | [], _, _ => rfl
  | (i, x) :: r, ps, h => by
    simp only [partsTy] at h
    split at h
    · rename_i v hv
      split at h
      · rename_i l hl
        simp only [List.flatMap_cons, ownIds_append, ownIds_asTy h' hv, ownIds_parts h' r l hl, List.nil_append]
      · cases h
    · cases h
/-! #### operands -/
theorem fillCells_congr {flds : List (Nat × Nat × Bool)} {ρ ρ' : Operand → AV} : ∀ (l : List (Nat × Operand)) (cs : List AV), (∀ y ∈ l.map (·.2), ρ y = ρ' y) → fillCells flds ρ l cs = fillCells flds ρ' l cs
  | [], _, _ => rfl
  | (i, x) :: r, cs, h => by
    simp only [fillCells]
    rw [h x (by simp)]
    split
    · split
      · exact fillCells_congr r _ fun y hy => h y (by simp at hy ⊢; exact .inr hy)
      · rfl
    · rfl
theorem partsTy_congr {t : Ty} {ρ ρ' : Operand → AV} : ∀ (l : List (Nat × Operand)), (∀ y ∈ l.map (·.2), ρ y = ρ' y) → partsTy H t ρ l = partsTy H t ρ' l
  | [], _ => rfl
  | (i, x) :: r, h => by
    simp only [partsTy]
    rw [h x (by simp), partsTy_congr r fun y hy => h y (by simp at hy ⊢; exact .inr hy)]
theorem optmap_congr {ρ ρ' : Operand → AV} (o : Option Operand) (h : ∀ y, o = some y → ρ y = ρ' y) : o.map ρ = o.map ρ' := by
  cases o with
  | none => rfl
  | some y => simp [h y rfl]
theorem opK_congr {op : Op} {ρ ρ' : Operand → AV} {K : AV → Hp → Option α} (h : ∀ y ∈ op.operands, ρ y = ρ' y) : opK E op ρ H K = opK E op ρ' H K := by
  cases op with
  | build t ps =>
    simp only [opK]
    have hc : ∀ (flds : List (Nat × Nat × Bool)) (cs : List AV), fillCells flds ρ ps.toList cs = fillCells flds ρ' ps.toList cs := fun flds cs => fillCells_congr ps.toList cs fun y hy => h y (by simpa [Op.operands] using hy)
    simp only [hc]
  | buildSlice t n ps =>
    have hp : ∀ y ∈ ps.toList.map (·.2), ρ y = ρ' y := fun y hy => h y (by simpa [Op.operands] using hy)
    have h2 : (ps.toList.flatMap fun p => cellsOf (ρ p.2)) = ps.toList.flatMap fun p => cellsOf (ρ' p.2) := by
      generalize ps.toList = l at hp
      induction l with
      | nil => rfl
      | cons q l ih => simp only [List.flatMap_cons, ih fun y hy => hp y (by simp at hy ⊢; exact .inr hy), hp q.2 (by simp)]
    simp only [opK, h2]
    split
    · rw [partsTy_congr ps.toList hp]
    · rfl
  | slice t x lo hi mx =>
    simp only [opK]
    rw [h x (by simp [Op.operands]), optmap_congr lo fun y hy => h y (by simp [Op.operands, hy]), optmap_congr hi fun y hy => h y (by simp [Op.operands, hy])]
    cases mx with
    | none => rfl
    | some m =>
      have hm := h m (by simp [Op.operands])
      cases m <;> simp only [hm]
  | makeFunc f first cap =>
    simp only [opK]
    have : cap.toList.map ρ = cap.toList.map ρ' := List.map_congr_left fun y hy => h y (by simp [Op.operands]; exact .inr (by simpa using hy))
    rw [this]
  | binOp op t x y yt =>
    have hx := h x (by simp [Op.operands])
    have hy := h y (by simp [Op.operands])
    simp only [opK]
    split
    · rw [hx]
    · rw [hx, hy]
  | makeMap t r => cases r <;> rfl
  | lookup t x i c =>
    cases c with
    | true => rfl
    | false =>
      simp only [opK]
      rw [h x (by simp [Op.operands]), h i (by simp [Op.operands])]
  | _ => first | rfl | (simp [Op.operands] at h; simp [opK, h])
theorem opnd_put {ts : List AV} {d : Option Tmp} {v : AV} {y : Operand} (h : ∀ t, d = some t → y ≠ .tmp t) : opnd E (put ts d v) y = opnd E ts y := by
  cases d with
  | none => rfl
  | some d =>
    cases y with
    | tmp t =>
      have : d ≠ t := fun e => h d rfl (e ▸ rfl)
      simp only [opnd, put, List.getD]
      rw [List.getElem?_set_ne this]
    | _ => rfl
theorem opStep_congr {call : (g : FuncId) → List AV → Hp → Option (Ret E g)} {o : Oper} {ts ts' : List AV} (h : ∀ y ∈ o.op.operands, opnd E ts y = opnd E ts' y) : opStep E call o ts H = opStep E call o ts' H := by
  unfold opStep
  cases ho : o.op with
  | call c =>
    rw [ho] at h
    have ha : c.args.toList.map (opnd E ts) = c.args.toList.map (opnd E ts') := List.map_congr_left fun y hy => h y (by simp only [Op.operands, Call.operands, Array.mem_append]; exact .inr (by simpa using hy))
    simp only []
    cases hc : c.callee with
    | builtin b => simp only [ha]
    | value f =>
      have hf : opnd E ts f = opnd E ts' f := h f (by simp [Op.operands, Call.operands, hc])
      simp only [ha, hf]
    | invoke a b => rfl
  | _ => simp only []; exact opK_congr (by rw [← ho]; exact h)
end
end Go.Proofs.YtmojilihllhadaaGreatDoor.Ev
/- What an operation of each kind does to the memory. -/
namespace Go.Proofs.YtmojilihllhadaaGreatDoor.Ev
open Go Go.RowKit
set_option linter.unusedVariables false
set_option linter.unusedSimpArgs false
section
variable {α : Type} {P : Program} {E : Env} {B : Nat → Prop} {F : Fz} {g : List GE} {w : World} {H : Hp}
theorem opK_kind0 {op : Op} {ρ : Operand → AV} (hk : kindOf E op = 0) (H H2 : Hp) (K : AV → Hp → Option α) (hc : ∀ c, op ≠ .call c) (hb : ∀ t n p, op ≠ .buildSlice t n p) : opK E op ρ H K = opK E op ρ H2 (fun v _ => K v H) := by
  cases op with
  | call c => exact absurd rfl (hc c)
  | buildSlice t n p => exact absurd rfl (hb t n p)
  | load | alloc | box | makeSlice | store => simp [kindOf] at hk
  | convert s d x =>
    simp only [kindOf] at hk
    simp only [opK, convertK]
    cases hs : (E.ti s).d with
    | slice e => rw [hs] at hk; cases hk
    | _ => first | rfl | (cases hd : (E.ti d).d <;> first | rfl | (cases ρ x <;> rfl))
  | slice t x lo hi mx =>
    simp only [kindOf] at hk
    split at hk
    · rename_i hd
      simp only [opK, hd]
    · simp only [opK]
      split
      · split
        · simp only [Option.map_none, Option.isSome_none]
          have hw : ∀ (H : Hp) (x : AV), widen H false x = x := fun H x => by unfold widen; split <;> first | rfl | (rename_i e; cases e)
          rw [hw, hw]
        · rfl
        · rfl
      · rfl
      · rfl
    · cases hk
  | binOp op t x y yt =>
    simp only [opK]
  | _ => first | rfl | (simp only [opK]; done) | (simp [kindOf] at hk)
theorem kind_binOp {a : BinOp} {b : TypeId} {c y : Operand} {d : TypeId} : kindOf E (.binOp a b c y d) = 0 ∨ kindOf E (.binOp a b c y d) = 3 := by
  unfold kindOf
  split <;> first | exact .inr rfl | exact .inl rfl | (rename_i e; cases e)
theorem kind0_nil {op : Op} (hk : kindOf E op = 0) : nilOp op = false := by
  cases op with
  | binOp a b c y d =>
    unfold nilOp
    split
    · rename_i e
      cases e
      simp [kindOf] at hk
    · rfl
  | _ => rfl
theorem opK_zero {op : Op} {ρ : Operand → AV} {σ : AV} {H' : Hp} (hk : kindOf E op = 0) (hc : ∀ c, op ≠ .call c) (h : opK E op ρ H (fun v H => some (v, H)) = some (σ, H')) :
    H' = H ∧ ∀ H2, opK E op ρ H2 (fun v H => some (v, H)) = some (σ, H2) := by
  by_cases hb : ∀ t n p, op ≠ .buildSlice t n p
  · have e : ∀ H2, opK E op ρ H2 (fun v H => some (v, H)) = some (σ, H2) := by
      intro H2
      rw [opK_kind0 hk H2 H _ hc hb]
      have := opK_nat (E := E) (o := op) (kind0_nil hk) (ρ := ρ) (H := H) (K := fun v H => some (v, H)) (f := fun p => some (p.1, H2))
      rw [h] at this
      exact this.symm
    have := e H
    rw [h] at this
    exact ⟨(Prod.mk.inj (Option.some.inj this)).2, e⟩
  · have ⟨t, n, p, e⟩ : ∃ t n p, op = .buildSlice t n p := Classical.byContradiction fun hh => hb fun t n p e => hh ⟨t, n, p, e⟩
    subst e
    simp only [opK] at h ⊢
    cases n with
    | zero => simp [kindOf] at hk
    | succ n =>
      simp only [kindOf] at hk
      cases hd : (E.ti t).d with
      | slice e =>
        simp only [hd] at h hk ⊢
        cases hs0 : ((E.ti e).ty.hasSl || (E.ti t).own) with
        | true => rw [hs0] at hk; cases hk
        | false =>
          obtain ⟨hs, hs1⟩ := Bool.or_eq_false_iff.1 hs0
          split at h
          · rename_i ps hps hall
            have hids := ownIds_parts hs p.toList ps hps
            simp only [hids, hs1] at h
            cases h
            refine ⟨rfl, fun H2 => ?_⟩
            rw [partsTy_noSl (H2 := H) hs, hps, hall]
            simp only [hids, hs1]
            rfl
          · cases h
      | _ => simp only [hd] at h; cases h
theorem minMaxK_zero {mx : Bool} {vs : List AV} {σ : AV} {H' : Hp} (h : minMaxK mx vs (fun v => some (v, H)) = some (σ, H')) : H' = H ∧ ∀ H2 : Hp, minMaxK mx vs (fun v => some (v, H2)) = some (σ, H2) := by
  unfold minMaxK at h ⊢
  split at h
  · split at h
    · rename_i hk
      cases h
      refine ⟨rfl, fun H2 => ?_⟩
      rw [if_pos hk]
    · cases h
  · cases h
theorem sd_zero {as : Array TypeId} {vs : List AV} {σ : AV} {H' : Hp} (h : builtinK E .unsafeSliceData as vs H (fun v H => some (v, H)) = some (σ, H')) :
    H' = H ∧ ∀ H2 : Hp, builtinK E .unsafeSliceData as vs H2 (fun v H => some (v, H)) = some (σ, H2) := by
  rcases vs with _ | ⟨x, _ | ⟨y, t⟩⟩
  · cases h
  · have h : sliceDataK x H (fun v H => some (v, H)) = some (σ, H') := h
    have hg : ∀ H2 : Hp, builtinK E .unsafeSliceData as [x] H2 (fun v H => some (v, H)) = sliceDataK x H2 (fun v H => some (v, H)) := fun _ => rfl
    unfold sliceDataK at h
    split at h
    · cases h; exact ⟨rfl, fun H2 => rfl⟩
    · obtain ⟨hn, h⟩ := cond_some h
      cases h
      refine ⟨rfl, fun H2 => ?_⟩
      rw [hg]
      unfold sliceDataK
      simp only [hn, cond_true]
    · cases h
  · cases h
theorem libK_H {p : LibF} {args : List AV} {σ : AV} {H' : Hp} (h : libK p args (fun v => some (v, H)) = some (σ, H')) : H' = H ∧ ∀ H2 : Hp, libK p args (fun v => some (v, H2)) = some (σ, H2) := by
  have nat : ∀ H : Hp, libK p args (fun v => some (v, H)) = (libK p args some).bind fun v => some (v, H) := by
    intro H
    unfold libK
    split
    · rw [cond_bindX, cond_bindX]; rfl
    · split
      · rw [cond_bindX]; rfl
      · split
        · rw [cond_bindX]; rfl
        · rfl
    · rw [cond_bindX]; rfl
    · rfl
  rw [nat] at h
  obtain ⟨v, h1, h2⟩ := Option.bind_eq_some_iff.1 h
  cases h2
  exact ⟨rfl, fun H2 => by rw [nat, h1]; rfl⟩
theorem extK_plain {x : XT} {args : List AV} {σ : AV} {H' : Hp} (hx : x.plain = true) (h : extK x args H (fun v H => some (v, H)) = some (σ, H')) :
    H' = H ∧ ∀ H2 : Hp, extK x args H2 (fun v H => some (v, H)) = some (σ, H2) := by
  unfold extK at h ⊢
  split at h
  · cases h; exact ⟨rfl, fun _ => rfl⟩
  · cases h; exact ⟨rfl, fun _ => rfl⟩
  · cases h; exact ⟨rfl, fun _ => rfl⟩
  · cases hx
  · cases hx
  · exact libK_H h
  · cases hx
  · split at h
    · rename_i xs hxs
      obtain ⟨hc, h⟩ := cond_some h
      cases h
      exact ⟨rfl, fun H2 => by simp only [hc, cond_true]⟩
    · cases h
  · split at h
    · rename_i xs ys hxs hys
      obtain ⟨hc, h⟩ := cond_some h
      cases h
      exact ⟨rfl, fun H2 => by simp only [hc, cond_true]⟩
    · cases h
  · cases hx
  · cases h
theorem opStep_zero {call : (g : FuncId) → List AV → Hp → Option (Ret E g)} {o : Oper} {ts : List AV} {σ : AV} {H' : Hp} (hk : kindOf E o.op = 0) (h : opStep E call o ts H = some (σ, H')) :
    H' = H ∧ ∀ H2, opStep E call o ts H2 = some (σ, H2) := by
  unfold opStep at h ⊢
  cases ho : o.op with
  | call c =>
    simp only [ho] at h hk ⊢
    cases hc : c.callee with
    | builtin b =>
      simp only [kindOf, hc] at h hk ⊢
      cases b with
      | min => simp only [builtinK] at h ⊢; exact minMaxK_zero h
      | max => simp only [builtinK] at h ⊢; exact minMaxK_zero h
      | unsafeSliceData => exact sd_zero h
      | len =>
        simp only [builtinK] at h ⊢
        split at h
        · rename_i x
          split at h
          · rename_i t ht
            split at h
            · rename_i n hn
              split at h
              · rename_i hd
                split at h
                · cases h
                  refine ⟨rfl, fun H2 => ?_⟩
                  simp_all
                · cases h
              · rename_i e hd
                split at h
                · cases h
                · cases h
                  refine ⟨rfl, fun H2 => ?_⟩
                  simp_all
              · cases h
            · cases h
          · cases h
        all_goals first | (cases h; done) | simp_all
      | _ => simp at hk
    | value f =>
      simp only [kindOf, hc] at hk
      split at hk
      all_goals first | (rename_i e; cases e; done) | (simp at hk; done) | skip
      rename_i g' e
      cases e
      split at hk
      · rename_i gi hgi
        split at hk <;> simp at hk
      · rename_i hgi
        cases hx : E.xt g' with
        | none => rw [hx] at hk; cases hk
        | some x =>
          rw [hx] at hk
          cases hp : x.plain with
          | false => simp only [hp] at hk; cases hk
          | true =>
            have hfo : opnd E ts (.func g') = .fn g' [] := rfl
            simp only [hc, hfo, hgi, hx] at h ⊢
            exact extK_plain hp h
    | invoke a b => simp only [hc] at h; cases h
  | _ =>
    simp only [ho] at h hk ⊢
    exact opK_zero hk (fun c e => by cases e) h
end
end Go.Proofs.YtmojilihllhadaaGreatDoor.Ev
/- Operations that read, and operations that make new. -/
namespace Go.Proofs.YtmojilihllhadaaGreatDoor.Ev
open Go Go.RowKit
set_option linter.unusedVariables false
set_option linter.unusedSimpArgs false
section
variable {α : Type} {P : Program} {E : Env} {B : Nat → Prop} {F : Fz} {g : List GE} {w : World} {H H2 H3 : Hp}
def BLe (b b' : Blk) : Prop := b' = b ∨ ∃ t l c c', b = .arr t l c ∧ b' = .arr t l c'
structure HLe (H H2 : Hp) : Prop where
  len : H.length ≤ H2.length
  get : ∀ (i : Nat) b, H[i]? = some b → ∃ b', H2[i]? = some b' ∧ BLe b b'
theorem BLe.trans {a b c : Blk} (h : BLe a b) (k : BLe b c) : BLe a c := by
  rcases h with rfl | ⟨t, l, c1, c2, rfl, rfl⟩
  · exact k
  · rcases k with rfl | ⟨t', l', c1', c2', h1, h2⟩
    · exact .inr ⟨t, l, c1, c2, rfl, rfl⟩
    · cases h1
      exact .inr ⟨t, l, c1, c2', rfl, h2⟩
theorem HLe.refl (H : Hp) : HLe H H := ⟨Nat.le_refl _, fun i b h => ⟨b, h, .inl rfl⟩⟩
theorem HLe.trans (h : HLe H H2) (k : HLe H2 H3) : HLe H H3 := ⟨Nat.le_trans h.len k.len, fun i b hb => by
  obtain ⟨b', h1, h2⟩ := h.get i b hb
  obtain ⟨b'', k1, k2⟩ := k.get i b' h1
  exact ⟨b'', k1, h2.trans k2⟩⟩
theorem HLe.app (H X : Hp) : HLe H (H ++ X) := ⟨by simp, fun i b h => ⟨b, by rw [List.getElem?_append_left (List.getElem?_eq_some_iff.1 h).1]; exact h, .inl rfl⟩⟩
theorem HLe.lend1 (H : Hp) (id : Nat) : HLe H (lend1 H id) := ⟨by simp [lend1_len], fun i b h => by
  unfold Ev.lend1
  rw [List.getElem?_modify]
  rw [h]
  by_cases hi : id = i
  · simp only [if_pos hi]
    refine ⟨_, rfl, ?_⟩
    cases b with
    | arr t l c => exact .inr ⟨t, l, c, true, rfl, rfl⟩
    | _ => exact .inl rfl
  · simp only [if_neg hi]
    exact ⟨_, rfl, .inl rfl⟩⟩
theorem HLe.lendAll : ∀ (ids : List Nat) (H : Hp), HLe H (lendAll H ids)
  | [], H => .refl H
  | i :: r, H => (HLe.lend1 H i).trans (HLe.lendAll r _)
theorem HLe.lt (h : HLe H H2) {i : Nat} (hi : i < H.length) : ∃ b b', H[i]? = some b ∧ H2[i]? = some b' ∧ BLe b b' := by
  obtain ⟨b, hb⟩ : ∃ b, H[i]? = some b := ⟨H[i], by simp [hi]⟩
  obtain ⟨b', k1, k2⟩ := h.get i b hb
  exact ⟨b, b', hb, k1, k2⟩
theorem loadP_eq (h : HLe H H2) {agg : Bool} {sz : Nat} {v : AV} (hi : ∀ id ∈ leafIds v, id < H.length) : loadP H agg sz v = loadP H2 agg sz v := by
  cases v with
  | ptr id i =>
    obtain ⟨b, b', h1, h2, h3⟩ := h.lt (hi id (by simp [leafIds]))
    simp only [loadP, h1, h2]
    rcases h3 with rfl | ⟨t, l, c1, c2, rfl, rfl⟩ <;> rfl
  | eptr id i j =>
    obtain ⟨b, b', h1, h2, h3⟩ := h.lt (hi id (by simp [leafIds]))
    simp only [loadP, h1, h2]
    rcases h3 with rfl | ⟨t, l, c1, c2, rfl, rfl⟩ <;> rfl
  | aptr id i j =>
    obtain ⟨b, b', h1, h2, h3⟩ := h.lt (hi id (by simp [leafIds]))
    simp only [loadP, h1, h2]
    rcases h3 with rfl | ⟨t, l, c1, c2, rfl, rfl⟩ <;> rfl
  | _ => rfl
theorem loadP_lt {agg : Bool} {sz : Nat} {v u : AV} (h : loadP H agg sz v = some u) : ∀ id ∈ leafIds v, id < H.length := by
  intro id hid
  cases v with
  | ptr id' i =>
    simp only [leafIds, List.mem_singleton] at hid
    subst hid
    simp only [loadP] at h
    split at h
    · rename_i hb; exact (List.getElem?_eq_some_iff.1 hb).1
    · cases h
  | eptr id' i j =>
    simp only [leafIds, List.mem_singleton] at hid
    subst hid
    simp only [loadP] at h
    split at h
    · rename_i hb; exact (List.getElem?_eq_some_iff.1 hb).1
    · cases h
  | aptr id' i j =>
    simp only [leafIds, List.mem_singleton] at hid
    subst hid
    simp only [loadP] at h
    split at h
    · rename_i hb; exact (List.getElem?_eq_some_iff.1 hb).1
    · cases h
  | all | own | slf | mp => simp [loadP] at h
  | _ => simp [leafIds] at hid
theorem isArr_eq (h : HLe H H2) {i : Nat} (hi : i < H.length) : isArr H i = isArr H2 i := by
  obtain ⟨b, b', h1, h2, h3⟩ := h.lt hi
  simp only [isArr, h1, h2]
  rcases h3 with rfl | ⟨t, l, c1, c2, rfl, rfl⟩ <;> rfl
theorem isArr_lt {i : Nat} (h : isArr H i = true) : i < H.length := by
  unfold isArr at h
  split at h
  · rename_i hb; exact (List.getElem?_eq_some_iff.1 hb).1
  · cases h
theorem argsOk_lt {args : List AV} (h : argsOk H args = true) : ∀ v ∈ args, ∀ id ∈ ownIds (cellsOf v), id < H.length := fun v hv id hid =>
  isArr_lt (List.all_eq_true.1 h id (List.mem_flatMap.2 ⟨v, hv, hid⟩))
theorem argsOk_eq (h : HLe H H2) {args : List AV} (hi : ∀ v ∈ args, ∀ id ∈ ownIds (cellsOf v), id < H.length) : argsOk H args = argsOk H2 args := by
  unfold argsOk
  generalize hl : (args.flatMap fun v => ownIds (cellsOf v)) = l
  have : ∀ id ∈ l, id < H.length := fun id hid => by
    rw [← hl] at hid
    obtain ⟨v, hv, hid⟩ := List.mem_flatMap.1 hid
    exact hi v hv id hid
  clear hl
  induction l with
  | nil => rfl
  | cons i l ih => simp only [List.all_cons, isArr_eq h (this i (by simp)), ih fun j hj => this j (by simp [hj])]
theorem lendV_eq (h : HLe H H2) {v : AV} (hi : ∀ id ∈ ownIds [v], id < H.length) : lendV H v = lendV H2 v := by
  cases v with
  | all id sz n =>
    obtain ⟨b, b', h1, h2, h3⟩ := h.lt (hi id (by simp [ownIds]))
    simp only [lendV, h1, h2]
    rcases h3 with rfl | ⟨t, l, c1, c2, rfl, rfl⟩ <;> rfl
  | own id sz off n =>
    obtain ⟨b, b', h1, h2, h3⟩ := h.lt (hi id (by simp [ownIds]))
    simp only [lendV, h1, h2]
    rcases h3 with rfl | ⟨t, l, c1, c2, rfl, rfl⟩ <;> rfl
  | _ => rfl
theorem lendArg_eq (h : HLe H H2) {v : AV} (hi : ∀ id ∈ ownIds (cellsOf v), id < H.length) : lendArg H v = lendArg H2 v := by
  cases v with
  | agg cs =>
    simp only [lendArg, AV.agg.injEq]
    replace hi : ∀ id ∈ ownIds cs, id < H.length := hi
    refine List.map_congr_left fun v hv => lendV_eq h fun id hid => hi id (ownIds_sub (by simpa using hv) id hid)
  | _ => first | rfl | exact lendV_eq h hi
theorem lendArgs_eq (h : HLe H H2) {args : List AV} (hi : ∀ v ∈ args, ∀ id ∈ ownIds (cellsOf v), id < H.length) : args.map (lendArg H) = args.map (lendArg H2) :=
  List.map_congr_left fun v hv => lendArg_eq h (hi v hv)
def Bnd (n : Nat) (v : AV) : Prop := (∀ id ∈ leafIds v, id < n) ∧ ∀ id ∈ ownIds (cellsOf v), id < n
theorem retVals_ro (ts : List Ty) (x : (retTy ts).den) (b b2 : Nat) : retVals false ts x b = retVals false ts x b2 ∧ (retVals false ts x b).2 = [] := by
  match ts, x with
  | [], _ => exact ⟨rfl, rfl⟩
  | [t], _ => exact ⟨rfl, rfl⟩
  | t :: u :: ts, x =>
    simp only [retVals]
    rw [(retVals_ro (u :: ts) x.2 b b2).1]
    exact ⟨rfl, True.intro⟩
theorem opStep_read {call : (g : FuncId) → List AV → Hp → Option (Ret E g)} {o : Oper} {ts : List AV} (hk : kindOf E o.op = 1) :
    (∀ H σ H', opStep E call o ts H = some (σ, H') → H' = H ∧ ∀ H2, HLe H H2 → opStep E call o ts H2 = some (σ, H2)) ∧
    (∀ H H2 σ H', opStep E call o ts H2 = some (σ, H') → HLe H H2 → (∀ y ∈ o.op.operands, Bnd H.length (opnd E ts y)) → opStep E call o ts H = some (σ, H)) := by
  unfold opStep
  cases ho : o.op with
  | load t a =>
    simp only [opK]
    constructor
    · intro H σ H' h
      split at h
      · rename_i v hsz hv
        cases h
        refine ⟨rfl, fun H2 hl => ?_⟩
        rw [← loadP_eq hl (loadP_lt hv), hsz, hv]
      · cases h
    · intro H H2 σ H' h hl hb
      rw [loadP_eq hl (hb a (by simp [Op.operands])).1]
      split at h
      · rename_i v hsz hv
        cases h
        rfl
      · cases h
  | call c =>
    rw [ho] at hk
    simp only [kindOf] at hk
    cases hc : c.callee with
    | builtin b =>
      rw [hc] at hk
      cases b <;> simp at hk
    | invoke a b => simp only [hc]; refine ⟨fun _ _ _ h => ?_, fun _ _ _ _ h => ?_⟩ <;> cases h
    | value f =>
      rw [hc] at hk
      cases f with
      | func k =>
        simp only [] at hk
        cases hg : E.fi k with
        | none =>
          rw [hg] at hk
          simp only [] at hk
          split at hk
          · split at hk <;> cases hk
          · cases hk
        | some gi =>
          rw [hg] at hk
          simp only [] at hk
          cases hi : gi.inl with
          | true => rw [hi] at hk; cases hk
          | false =>
            rw [hi, Bool.false_or] at hk
            cases hs : (gi.own || shares false gi.rts) with
            | true => rw [hs] at hk; cases hgt : gi.take <;> rw [hgt] at hk <;> cases hk
            | false =>
              have ⟨ho1, hs1⟩ := Bool.or_eq_false_iff.1 hs
              have hr : rtsOf E k = gi.rts := by unfold rtsOf; rw [hg]
              have hfo : opnd E ts (.func k) = .fn k [] := rfl
              have ht : gi.take = false := by
                cases ht : gi.take with
                | false => rfl
                | true => rw [ht] at hk; cases hk
              simp only [hc, hfo, hg, hi, ht]
              have hac : ∀ (args : List AV) (H : Hp), afterCall gi.own (rtsOf E k) args H = H := by
                intro args H
                unfold afterCall
                rw [hr, ho1, hs1]
              have hv : ∀ x b, (retVals gi.own (rtsOf E k) x b).2 = [] := by
                intro x b
                rw [ho1]
                exact (retVals_ro _ x b b).2
              have hv1 : ∀ x b b2, (retVals gi.own (rtsOf E k) x b).1 = (retVals gi.own (rtsOf E k) x b2).1 := by
                intro x b b2
                rw [ho1, (retVals_ro _ x b b2).1]
              constructor
              · intro H σ H' h
                split at h
                · rename_i hok
                  rw [Bool.and_eq_true] at hok
                  obtain ⟨hok, hbe⟩ := hok
                  obtain ⟨x, hx, hy⟩ := Option.bind_eq_some_iff.1 h
                  rw [hac, hv, List.append_nil] at hy
                  cases hy
                  refine ⟨rfl, fun H2 hl => ?_⟩
                  have hlt := argsOk_lt hok
                  rw [argsOk_eq hl hlt] at hok
                  rw [hok, hbe]
                  simp only [Bool.and_self]
                  rw [← lendArgs_eq hl hlt, hx]
                  simp only [Option.bind_some]
                  rw [hac, hv, List.append_nil, hv1 (rFst (rtsOf E k) (backOf E k) x) H2.length H.length]
                · cases h
              · intro H H2 σ H' h hl hb
                have hlt : ∀ v ∈ c.args.toList.map (opnd E ts), ∀ id ∈ ownIds (cellsOf v), id < H.length := by
                  intro v hv
                  obtain ⟨y, hy, rfl⟩ := List.mem_map.1 hv
                  exact (hb y (by simp only [Op.operands, Call.operands, Array.mem_append]; exact .inr (by simpa using hy))).2
                split at h
                · rename_i hok
                  rw [Bool.and_eq_true] at hok
                  obtain ⟨hok, hbe⟩ := hok
                  obtain ⟨x, hx, hy⟩ := Option.bind_eq_some_iff.1 h
                  rw [hac, hv, List.append_nil] at hy
                  cases hy
                  rw [argsOk_eq hl hlt, hok, hbe]
                  simp only [Bool.and_self]
                  rw [lendArgs_eq hl hlt, hx]
                  simp only [Option.bind_some]
                  rw [hac, hv, List.append_nil, hv1 (rFst (rtsOf E k) (backOf E k) x) H.length H2.length]
                · cases h
      | _ => simp at hk
  | buildSlice t n p =>
    rw [ho] at hk
    cases n with
    | zero => simp [kindOf] at hk
    | succ n =>
      simp only [kindOf] at hk
      split at hk
      · split at hk <;> cases hk
      · cases hk
  | slice t x lo hi mx =>
    rw [ho] at hk
    simp only [kindOf] at hk
    have hww : ∀ {H H2 : Hp} {b : Bool} {v : AV}, HLe H H2 → (∀ id ∈ leafIds v, id < H.length) → widen H b v = widen H2 b v := by
      intro H H2 b v hl hb
      unfold widen
      split
      · rename_i id s off n
        obtain ⟨b1, b2, q1, q2, q3⟩ := hl.lt (hb id (by simp [leafIds]))
        rw [q1, q2]
        rcases q3 with rfl | ⟨t, l, c1, c2, rfl, rfl⟩ <;> rfl
      · rfl
    have hwt : ∀ {H : Hp} {b : Bool} {v σ : AV} {sz : Nat} {lo hi : Option AV} {H' : Hp}, sliceK sz (widen H b v) lo hi none (fun v => some (v, H)) = some (σ, H') → b = true → ∀ id ∈ leafIds v, (∃ s o n, v = .own id s o n) → id < H.length := by
      intro H b v σ sz lo hi H' h hb id hid ⟨s, o, n, hv⟩
      subst hv hb
      simp only [widen] at h
      split at h
      · rename_i hq; exact idx_lt hq
      · simp [sliceK] at h
    have hwn : ∀ {H : Hp} {b : Bool} {v : AV}, (¬ ∃ id s o n, v = .own id s o n ∧ b = true) → widen H b v = v := by
      intro H b v hn
      unfold widen
      split
      · rename_i a c d e; exact absurd ⟨_, _, _, _, rfl, rfl⟩ hn
      · rfl
    have hres : ∀ {H H2 : Hp} {v : AV} {sz : Nat} {lo hi mx : Option AV}, sliceK sz v lo hi mx (fun v => some (v, H)) = (sliceK sz v lo hi mx (fun v => some (v, H2))).bind fun p => some (p.1, H) := by
      intro H H2 v sz lo hi mx
      rw [sliceK_nat]; rfl
    have hres3 : ∀ {H H2 : Hp} {v m : AV} {lo hi : Option AV}, threeK v lo hi m (fun v => some (v, H)) = (threeK v lo hi m (fun v => some (v, H2))).bind fun p => some (p.1, H) := by
      intro H H2 v m lo hi
      rw [threeK_nat]; rfl
    simp only [opK]
    cases hd : (E.ti t).d with
    | slice e =>
      simp only []
      cases mx with
      | none =>
        simp only []
        constructor
        · intro H σ H' h
          have h0 := h
          rw [hres (H2 := H)] at h
          obtain ⟨p, hp, hq⟩ := Option.bind_eq_some_iff.1 h
          cases hq
          refine ⟨rfl, fun H2 hl => ?_⟩
          have hw2 : widen H (hi.map (opnd E ts)).isSome (opnd E ts x) = widen H2 (hi.map (opnd E ts)).isSome (opnd E ts x) := by
            by_cases hc : ∃ id s o n, opnd E ts x = .own id s o n ∧ (hi.map (opnd E ts)).isSome = true
            · obtain ⟨id, s, o, n, hv, hb⟩ := hc
              refine hww hl fun id' hid' => ?_
              have : id' = id := by rw [hv] at hid'; simpa [leafIds] using hid'
              subst this
              exact hwt h0 hb id' hid' ⟨s, o, n, hv⟩
            · rw [hwn hc, hwn hc]
          rw [← hw2, hres (H2 := H), hp]; rfl
        · intro H H2 σ H' h hl hb
          rw [← hww hl (hb x (by simp [Op.operands])).1, hres (H2 := H)] at h
          obtain ⟨p, hp, hq⟩ := Option.bind_eq_some_iff.1 h
          cases hq
          rw [hp]
          have hp0 := hp
          rw [hres (H2 := H)] at hp
          obtain ⟨q, hq, hr⟩ := Option.bind_eq_some_iff.1 hp
          cases hr; rfl
      | some m =>
        cases m with
        | const v =>
          simp only []
          constructor
          · intro H σ H' h
            have hp := h
            rw [hres (H2 := H)] at h
            obtain ⟨p, hp', hq⟩ := Option.bind_eq_some_iff.1 h
            cases hq
            refine ⟨rfl, fun H2 hl => ?_⟩
            rw [hres (H2 := H), hp']; rfl
          · intro H H2 σ H' h hl hb
            rw [hres (H2 := H2), h]; rfl
        | _ =>
          simp only []
          constructor
          · intro H σ H' h
            rw [hres3 (H2 := H)] at h
            obtain ⟨p, hp', hq⟩ := Option.bind_eq_some_iff.1 h
            cases hq
            refine ⟨rfl, fun H2 hl => ?_⟩
            rw [hres3 (H2 := H), hp']; rfl
          · intro H H2 σ H' h hl hb
            rw [hres3 (H2 := H2), h]; rfl
    | str =>
      rw [hd] at hk
      simp at hk
    | _ => refine ⟨fun _ _ _ h => ?_, fun _ _ _ _ h => ?_⟩ <;> cases h
  | convert p q r =>
    rw [ho] at hk
    simp only [kindOf] at hk
    split at hk <;> cases hk
  | binOp p q r y d =>
    rw [ho] at hk
    rcases kind_binOp (E := E) (a := p) (b := q) (c := r) (y := y) (d := d) with h' | h' <;> rw [h'] at hk <;> cases hk
  | _ => rw [ho] at hk; simp [kindOf] at hk
theorem opStep_new {call : (g : FuncId) → List AV → Hp → Option (Ret E g)} {o : Oper} {ts : List AV} {σ : AV} {H' : Hp} (hk : kindOf E o.op = 2) (h : opStep E call o ts H = some (σ, H')) : HLe H H' := by
  unfold opStep at h
  cases ho : o.op with
  | alloc t =>
    simp only [ho, opK] at h
    split at h
    · split at h
      · unfold arrK at h
        split at h
        · cases h; exact .app _ _
        · cases h
      · cases h
    · split at h
      · cases h; exact .app _ _
      · cases h
  | box t x =>
    simp only [ho, opK] at h
    split at h
    · split at h
      · unfold arrK at h
        split at h
        · cases h; exact .app _ _
        · cases h
      · cases h
    · split at h
      · cases h; exact .app _ _
      · cases h
  | makeSlice t l c =>
    simp only [ho, opK] at h
    split at h
    · rename_i e k1 l k2 c h1 h2 h3
      cases hd : decide (0 ≤ l ∧ l ≤ c ∧ c < 4294967296) with
      | true => rw [hd] at h; cases h; exact .app _ _
      | false => rw [hd] at h; cases h
    · cases h
  | convert s d x =>
    simp only [ho, opK, convertK] at h
    split at h
    · cases h; exact .refl _
    · cases h; exact .refl _
    · split at h
      · cases h; exact .refl _
      · cases h
    · cases h
  | buildSlice t n p =>
    simp only [ho, opK] at h
    split at h
    · split at h
      · split at h
        · cases h; exact .app _ _
        · split at h
          · cases h; exact (HLe.lendAll _ _).trans (.app _ _)
          · cases h; exact .lendAll _ _
      · cases h
    · cases h
  | call c =>
    rw [ho] at hk
    simp only [ho] at h
    simp only [kindOf] at hk
    cases hc : c.callee with
    | builtin b =>
      rw [hc] at hk
      cases b <;> simp at hk
    | invoke a b => simp only [hc] at h; cases h
    | value f =>
      simp only [hc] at h
      split at h
      · split at h
        · split at h
          · cases h
          · rename_i _ k' caps hfv _ gi hgi _ hi
            have ht : gi.take = false := by
              cases ht : gi.take with
              | false => rfl
              | true =>
                exfalso
                cases f with
                | func k2 =>
                  have : k2 = k' := by
                    have hfo : opnd E ts (.func k2) = .fn k2 [] := rfl
                    rw [hfo] at hfv; cases hfv; rfl
                  subst this
                  simp [hc, hgi, hi, ht] at hk
                | _ => simp [hc] at hk
            rw [ht] at h
            simp only [] at h
            split at h
            · obtain ⟨x, hx, hy⟩ := Option.bind_eq_some_iff.1 h
              cases hy
              refine HLe.trans (H2 := afterCall _ _ _ _) ?_ (.app _ _)
              unfold afterCall
              split
              · exact .lendAll _ _
              · exact .refl _
            · cases h
        · rename_i k' caps hfv _ hgi
          exfalso
          cases f with
          | func k2 =>
            have : k2 = k' := by
              have hfo : opnd E ts (.func k2) = .fn k2 [] := rfl
              rw [hfo] at hfv; cases hfv; rfl
            subst this
            simp only [hc, hgi] at hk
            split at hk
            · split at hk <;> cases hk
            · cases hk
          | _ => simp [hc] at hk
      · cases h
  | slice t x lo hi mx =>
    rw [ho] at hk
    simp only [kindOf] at hk
    split at hk <;> cases hk
  | binOp p q r y d =>
    rw [ho] at hk
    rcases kind_binOp (E := E) (a := p) (b := q) (c := r) (y := y) (d := d) with h' | h' <;> rw [h'] at hk <;> cases hk
  | _ => rw [ho] at hk; simp [kindOf] at hk
end
end Go.Proofs.YtmojilihllhadaaGreatDoor.Ev
/- Regions whose order is drawn: what the order of the text says holds in every order. -/
namespace Go.Proofs.YtmojilihllhadaaGreatDoor.Ev
open Go Go.RowKit
set_option linter.unusedVariables false
set_option linter.unusedSimpArgs false
section
variable {α : Type} {P : Program} {E : Env} {B : Nat → Prop} {F : Fz} {g : List GE} {w : World} {H H2 H3 : Hp}
variable {call : (g : FuncId) → List AV → Hp → Option (Ret E g)} {inl : FI → List AV → Hp → Fin α → Option α} {ops : Array Oper}
theorem guard_cases (ops : Array Oper) (ts : List AV) (o : Oper) :
    (∀ {α : Type} (yes no : Option α), guardOf ops ts o yes no = yes) ∨ (∀ {α : Type} (yes no : Option α), guardOf ops ts o yes no = no) ∨ (∀ {α : Type} (yes no : Option α), guardOf ops ts o yes no = none) := by
  unfold guardOf
  split
  · exact .inl fun _ _ => rfl
  · rename_i j want _
    split
    · rename_i d _
      split
      · rename_i b _
        cases hb : (b == want) with
        | true => exact .inl fun _ _ => rfl
        | false => exact .inr (.inl fun _ _ => rfl)
      · exact .inr (.inl fun _ _ => rfl)
      · exact .inr (.inr fun _ _ => rfl)
    · exact .inr (.inr fun _ _ => rfl)
noncomputable def step1 (E : Env) (call : (g : FuncId) → List AV → Hp → Option (Ret E g)) (ops : Array Oper) (o : Oper) (ts : List AV) (H : Hp) : Option (AV × Hp) :=
  guardOf ops ts o (opStep E call o ts H) (some (.raw undef, H))
theorem opsK_step1 {i : Nat} {r : List Nat} {ts : List AV} {K : List AV → Hp → Option α} {o : Oper} (ho : ops[i]? = some o) (hn : nilOp o.op = false) (hI : mayInl E o.op = false) :
    opsK E call inl ops (i :: r) ts H K = (step1 E call ops o ts H).bind fun p => opsK E call inl ops r (put ts o.dst p.1) p.2 K := by
  rw [opsK_step ho hn hI]
  unfold step1
  rcases guard_cases ops ts o with h | h | h <;> simp only [h] <;> rfl
theorem guardOf_put {ts : List AV} {dd : Option Tmp} {v : AV} {o : Oper} (h : ∀ d, dd = some d → d ∉ looks ops o) {yes no : Option α} : guardOf ops (put ts dd v) o yes no = guardOf ops ts o yes no := by
  cases dd with
  | none => rfl
  | some d =>
    have hd := h d rfl
    unfold guardOf
    cases hg : o.guard with
    | none => rfl
    | some p =>
      obtain ⟨j, want⟩ := p
      simp only []
      cases hj : (ops[j]?).bind (·.dst) with
      | none => rfl
      | some e =>
        have hne : d ≠ e := by
          rintro rfl
          exact hd (by simp [looks, hg, hj])
        simp only [put, List.getD]
        rw [List.getElem?_set_ne hne]
theorem step1_put {ts : List AV} {dd : Option Tmp} {v : AV} {o : Oper} (h : ∀ d, dd = some d → d ∉ looks ops o) : step1 E call ops o (put ts dd v) H = step1 E call ops o ts H := by
  unfold step1
  rw [guardOf_put h, opStep_congr fun y hy => opnd_put fun t ht e => h t ht ?_]
  simp only [looks, List.mem_append, List.mem_filterMap]
  exact .inl ⟨y, by simpa using hy, by rw [e]⟩
theorem step1_zero {o : Oper} {ts : List AV} {σ : AV} {H' : Hp} (hk : kindOf E o.op = 0) (h : step1 E call ops o ts H = some (σ, H')) : H' = H ∧ ∀ H2, step1 E call ops o ts H2 = some (σ, H2) := by
  unfold step1 at h ⊢
  rcases guard_cases ops ts o with hg | hg | hg
  · simp only [hg] at h ⊢; exact opStep_zero hk h
  · simp only [hg] at h ⊢; cases h; exact ⟨rfl, fun _ => rfl⟩
  · simp only [hg] at h; cases h
theorem step1_read {o : Oper} {ts : List AV} {σ : AV} {H' : Hp} (hk : kindOf E o.op = 1) (h : step1 E call ops o ts H = some (σ, H')) : H' = H ∧ ∀ H2, HLe H H2 → step1 E call ops o ts H2 = some (σ, H2) := by
  unfold step1 at h ⊢
  rcases guard_cases ops ts o with hg | hg | hg
  · simp only [hg] at h ⊢; exact (opStep_read hk).1 _ _ _ h
  · simp only [hg] at h ⊢; cases h; exact ⟨rfl, fun _ _ => rfl⟩
  · simp only [hg] at h; cases h
theorem step1_anti {o : Oper} {ts : List AV} {σ : AV} {H' : Hp} (hk : kindOf E o.op = 1) (h : step1 E call ops o ts H2 = some (σ, H')) (hl : HLe H H2) (hb : ∀ y ∈ o.op.operands, Bnd H.length (opnd E ts y)) : step1 E call ops o ts H = some (σ, H) := by
  unfold step1 at h ⊢
  rcases guard_cases ops ts o with hg | hg | hg
  · simp only [hg] at h ⊢; exact (opStep_read hk).2 _ _ _ _ h hl hb
  · simp only [hg] at h ⊢; cases h; rfl
  · simp only [hg] at h; cases h
theorem step1_new {o : Oper} {ts : List AV} {σ : AV} {H' : Hp} (hk : kindOf E o.op = 2) (h : step1 E call ops o ts H = some (σ, H')) : HLe H H' := by
  unfold step1 at h
  rcases guard_cases ops ts o with hg | hg | hg
  · simp only [hg] at h; exact opStep_new hk h
  · simp only [hg] at h; cases h; exact .refl _
  · simp only [hg] at h; cases h
theorem put_comm {ts : List AV} {a b : Option Tmp} {u v : AV} (h : ∀ d, a = some d → b ≠ some d) : put (put ts a u) b v = put (put ts b v) a u := by
  cases a with
  | none => rfl
  | some a =>
    cases b with
    | none => rfl
    | some b =>
      simp only [put]
      exact List.set_comm _ _ fun e => h a rfl (by rw [e])
/-! #### pointers into known variables -/
def VoOk (vo : List (Nat × Nat)) (ts : List AV) : Prop := ∀ p ∈ vo, okB p.2 (ts.getD p.1 .top) = true
def VK (vo : List (Nat × Nat)) (o : Oper) : Prop := ∀ d, o.dst = some d → (∀ id, (d, id) ∉ vo) ∨ ∃ b, basedOn o.op = some (.tmp b) ∧ ∀ id, (d, id) ∈ vo → (b, id) ∈ vo
theorem VoOk.put {vo : List (Nat × Nat)} {ts : List AV} {o : Oper} {σ : AV} (h : VoOk vo ts) (hk : VK vo o)
    (hs : FaOk E ts o.op σ) : VoOk vo (Ev.put ts o.dst σ) := by
  rintro ⟨s, id⟩ hp
  by_cases hd : o.dst = some s
  · have hval : (Ev.put ts o.dst σ).getD s .top = σ ∨ (Ev.put ts o.dst σ).getD s .top = .top := by
      rw [hd]
      simp only [Ev.put, List.getD]
      by_cases hl : s < ts.length
      · exact .inl (by simp [hl])
      · exact .inr (by simp [hl])
    rcases hval with e | e
    · show okB id ((Ev.put ts o.dst σ).getD s .top) = true
      rw [e]
      rcases hk s hd with hn | ⟨b, h1, h2⟩
      · exact absurd hp (hn id)
      · exact (hs _ h1).1 id (h (b, id) (h2 id hp))
    · show okB id ((Ev.put ts o.dst σ).getD s .top) = true
      rw [e]; rfl
  · show okB id ((Ev.put ts o.dst σ).getD s .top) = true
    rw [put_getD hd]
    exact h (s, id) hp
theorem step1_fa {o : Oper} {ts : List AV} {σ : AV} {H' : Hp} (h : step1 E call ops o ts H = some (σ, H')) : FaOk E ts o.op σ := by
  intro y ho
  unfold step1 at h
  rcases guard_cases ops ts o with hg | hg | hg
  · simp only [hg] at h
    unfold opStep at h
    cases hop : o.op with
    | move y' =>
      rw [hop] at ho; cases ho
      simp only [hop, opK] at h
      cases h
      exact ⟨fun _ h => h, fun h => h⟩
    | fieldAddr t y' f =>
      rw [hop] at ho; cases ho
      simp only [hop, opK] at h
      split at h
      · rename_i off size ag hfl
        split at h
        · rename_i p hb hp
          cases h
          exact ⟨fun id hid => okB_field hid hp, fun hr => okR_field hr hp⟩
        · cases h
      · cases h
    | indexAddr t y' f =>
      rw [hop] at ho; cases ho
      simp only [hop, opK] at h
      split at h
      · unfold idxK at h
        split at h
        · rename_i hx
          split at h
          · rw [hx]; obtain ⟨_, q⟩ := cond_some h; cases q; exact ⟨fun id hid => (by cases hid), fun _ => rfl⟩
          · cases h
        · rename_i hx; rw [hx]; exact ⟨fun id hid => (by cases hid), fun hr => (by cases hr)⟩
        · rename_i hx; rw [hx]; exact ⟨fun id hid => (by cases hid), fun hr => (by cases hr)⟩
        · cases h
      · unfold idxA at h
        split at h
        · rename_i hx
          split at h
          · obtain ⟨_, q⟩ := cond_some h
            cases q
            rw [hx]
            exact ⟨fun id hid => hid, fun hr => (by cases hr)⟩
          · cases h
        · cases h
      · cases h
    | _ => rw [hop] at ho; cases ho
  · simp only [hg] at h; cases h; exact ⟨fun _ _ => rfl, fun _ => rfl⟩
  · simp only [hg] at h; cases h
theorem lookV_mem {s id : Nat} : ∀ {vo : List (Nat × Nat)}, lookV s vo = some id → (s, id) ∈ vo
  | [], h => by cases h
  | p :: r, h => by
    simp only [lookV] at h
    split at h
    · rename_i e
      cases h
      have := Nat.eq_of_beq_eq_true e
      subst this
      simp
    · exact List.mem_cons_of_mem _ (lookV_mem h)
theorem ptrOf_ok {vo : List (Nat × Nat)} {ts : List AV} {y : Operand} {id : Nat} (h : VoOk vo ts) (hp : ptrOf vo y = some id) : okB id (opnd E ts y) = true := by
  cases y with
  | tmp s => exact h (s, id) (lookV_mem hp)
  | _ => cases hp
def SameB (H H2 : Hp) (j : Nat) : Prop := H2[j]? = H[j]? ∨ ∃ t l c c', H[j]? = some (.arr t l c) ∧ H2[j]? = some (.arr t l c')
theorem SameB.symm {j : Nat} (h : SameB H H2 j) : SameB H2 H j := by
  rcases h with h | ⟨t, l, c, c', h1, h2⟩
  · exact .inl h.symm
  · exact .inr ⟨t, l, c', c, h2, h1⟩
theorem SameB.lend (ids : List Nat) (H : Hp) (j : Nat) : SameB H (lendAll H ids) j := by
  cases hj : H[j]? with
  | none =>
    refine .inl ?_
    rw [hj, List.getElem?_eq_none]
    rw [lendAll_len]
    exact List.getElem?_eq_none_iff.1 hj
  | some b =>
    obtain ⟨b', h1, h2⟩ := (HLe.lendAll ids H).get j b hj
    rcases h2 with rfl | ⟨t, l, c, c', rfl, rfl⟩
    · exact .inl (by rw [hj, h1])
    · exact .inr ⟨t, l, c, c', hj, h1⟩
theorem storeP_at {i sz : Nat} {v x : AV} {H' : Hp} (hx : okB i x = true) (h : storeP H sz v x = some H') : H'.length = H.length ∧ ∀ j, j ≠ i → SameB H H' j := by
  cases x with
  | ptr id k =>
    have hid : id = i := Nat.eq_of_beq_eq_true hx
    subst hid
    simp only [storeP] at h
    split at h
    · split at h
      · cases h
        exact ⟨by simp, fun j hj => .inl (by rw [List.getElem?_set_ne (Ne.symm hj)])⟩
      · cases h
    · cases h
  | eptr id k q =>
    have hid : id = i := Nat.eq_of_beq_eq_true hx
    subst hid
    simp only [storeP] at h
    split at h
    · split at h
      · cases h
      · split at h
        · cases h
          refine ⟨by simp [lendAll_len], fun j hj => ?_⟩
          have := SameB.lend (ownIds (cellsOf v)) H j
          unfold SameB at this ⊢
          rw [List.getElem?_set_ne (Ne.symm hj)]
          exact this
        · cases h
    · cases h
  | aptr id s n =>
    have hid : id = i := Nat.eq_of_beq_eq_true hx
    subst hid
    simp only [storeP] at h
    split at h
    · split at h
      · cases h
        exact ⟨by simp, fun j hj => .inl (by rw [List.getElem?_set_ne (Ne.symm hj)])⟩
      · cases h
    · cases h
  | top => cases h
  | raw u => cases h
  | _ => cases hx
theorem loadP_at {j sz : Nat} {ag : Bool} {y : AV} {H2 : Hp} (hy : okB j y = true) (h : SameB H H2 j) : loadP H2 ag sz y = loadP H ag sz y := by
  cases y with
  | ptr id k =>
    have hid : id = j := Nat.eq_of_beq_eq_true hy
    subst hid
    rcases h with h | ⟨t, l, c, c', h1, h2⟩
    · simp only [loadP, h]
    · simp only [loadP, h1, h2]
  | eptr id k q =>
    have hid : id = j := Nat.eq_of_beq_eq_true hy
    subst hid
    rcases h with h | ⟨t, l, c, c', h1, h2⟩
    · simp only [loadP, h]
    · simp only [loadP, h1, h2]
  | aptr id s n =>
    have hid : id = j := Nat.eq_of_beq_eq_true hy
    subst hid
    rcases h with h | ⟨t, l, c, c', h1, h2⟩
    · simp only [loadP, h]
    · simp only [loadP, h1, h2]
  | top => rfl
  | raw u => rfl
  | _ => cases hy
theorem step1_store {o : Oper} {ts : List AV} {σ : AV} {H' : Hp} {t : TypeId} {x v : Operand} {i : Nat} (ho : o.op = .store t x v) (hx : okB i (opnd E ts x) = true) (h : step1 E call ops o ts H = some (σ, H')) :
    H'.length = H.length ∧ ∀ j, j ≠ i → SameB H H' j := by
  unfold step1 at h
  rcases guard_cases ops ts o with hg | hg | hg
  · simp only [hg] at h
    unfold opStep at h
    simp only [ho, opK] at h
    split at h
    · rename_i H1 hb hp
      cases h
      exact storeP_at hx hp
    · cases h
  · simp only [hg] at h; cases h; exact ⟨rfl, fun _ _ => .inl rfl⟩
  · simp only [hg] at h; cases h
theorem step1_load {o : Oper} {ts : List AV} {σ : AV} {H' : Hp} {t : TypeId} {y : Operand} {j : Nat} (ho : o.op = .load t y) (hy : okB j (opnd E ts y) = true) (h : step1 E call ops o ts H = some (σ, H')) :
    H' = H ∧ ∀ H2 : Hp, SameB H H2 j → step1 E call ops o ts H2 = some (σ, H2) := by
  unfold step1 at h ⊢
  rcases guard_cases ops ts o with hg | hg | hg
  · simp only [hg] at h ⊢
    unfold opStep at h ⊢
    simp only [ho, opK] at h ⊢
    split at h
    · rename_i v hb hp
      cases h
      refine ⟨rfl, fun H2 e => ?_⟩
      rw [loadP_at hy e, hb, hp]
    · cases h
  · simp only [hg] at h ⊢; cases h; exact ⟨rfl, fun _ _ => rfl⟩
  · simp only [hg] at h; cases h
theorem apartSL_cases {vo : List (Nat × Nat)} {a b : Op} (h : apartSL vo a b = true) :
    (∃ t x v t' y i j, a = .store t x v ∧ b = .load t' y ∧ ptrOf vo x = some i ∧ ptrOf vo y = some j ∧ i ≠ j) ∨
    (∃ t x v t' y i j, b = .store t x v ∧ a = .load t' y ∧ ptrOf vo x = some i ∧ ptrOf vo y = some j ∧ i ≠ j) := by
  have key : ∀ {x y : Operand}, otherV vo x y = true → ∃ i j, ptrOf vo x = some i ∧ ptrOf vo y = some j ∧ i ≠ j := by
    intro x y h
    unfold otherV at h
    split at h
    · rename_i i j h1 h2
      refine ⟨i, j, h1, h2, ?_⟩
      rintro rfl
      simp at h
    · cases h
  cases a with
  | store t x v =>
    cases b with
    | load t' y =>
      obtain ⟨i, j, h1, h2, h3⟩ := key h
      exact .inl ⟨t, x, v, t', y, i, j, rfl, rfl, h1, h2, h3⟩
    | _ => cases h
  | load t' y =>
    cases b with
    | store t x v =>
      obtain ⟨i, j, h1, h2, h3⟩ := key h
      exact .inr ⟨t, x, v, t', y, i, j, rfl, rfl, h1, h2, h3⟩
    | _ => cases h
  | _ => cases h
def RoOk (ro : Nat → Bool) (ts : List AV) : Prop := ∀ s, ro s = true → okR (ts.getD s .top) = true
def RW (ro : Nat → Bool) (o : Oper) : Prop := ∀ d, o.dst = some d → ro d = true → ∃ b, basedOn o.op = some (.tmp b) ∧ ro b = true
theorem okSlot_ok {ops : Array Oper} {ts : List AV} : ∀ (n s : Nat), okSlot ops ts n s = true → okR (ts.getD s .top) = true
  | 0, s, h => by cases h
  | n + 1, s, h => by rw [okSlot, Bool.and_eq_true] at h; exact h.1
theorem okSlot_w {ops : Array Oper} {ts : List AV} {n s : Nat} (h : okSlot ops ts (n + 1) s = true) {o : Oper} (ho : o ∈ ops.toList) (hd : o.dst = some s) : ∃ b, basedOn o.op = some (.tmp b) ∧ okSlot ops ts n b = true := by
  rw [okSlot, Bool.and_eq_true, List.all_eq_true] at h
  have := h.2 o ho
  rw [Bool.or_eq_true] at this
  rcases this with h3 | h3
  · rw [hd] at h3; simp at h3
  · split at h3
    · rename_i b hb; exact ⟨b, hb, h3⟩
    · cases h3
theorem okSlot_mono {ops : Array Oper} {ts : List AV} : ∀ (n s : Nat), okSlot ops ts n s = true → okSlot ops ts (n + 1) s = true
  | 0, s, h => by cases h
  | n + 1, s, h => by
    have h0 := okSlot_ok _ _ h
    rw [okSlot, Bool.and_eq_true, List.all_eq_true]
    refine ⟨h0, fun o ho => ?_⟩
    rw [Bool.or_eq_true]
    by_cases hd : o.dst = some s
    · obtain ⟨b, h1, h2⟩ := okSlot_w h ho hd
      right
      rw [h1]
      exact okSlot_mono n b h2
    · left; simpa using hd
theorem roOf_ok (ops : Array Oper) (ts : List AV) : RoOk (roOf ops ts).1 ts := fun s hs => okSlot_ok 4 s hs
theorem roOf_keep {ops : Array Oper} {ts : List AV} {k : Nat} {o : Oper} (ho : ops[k]? = some o) : RW (roOf ops ts).1 o := fun d hd hs => by
  have hm : o ∈ ops.toList := List.mem_of_getElem? (by rw [Array.getElem?_toList]; exact ho)
  obtain ⟨b, h1, h2⟩ := okSlot_w (n := 3) hs hm hd
  exact ⟨b, h1, okSlot_mono 3 b h2⟩
theorem voOf_mem {ops : Array Oper} {ts : List AV} {s id : Nat} (h : (s, id) ∈ (roOf ops ts).2.1) :
    (unwr ops s = true ∧ baseAt ts s = some id) ∨ (unwr ops s = false ∧ ∃ b, fieldBase ops s = some b ∧ unwr ops b = true ∧ baseAt ts b = some id ∧ okB id (ts.getD s .top) = true) := by
  obtain ⟨s', hs', h⟩ := List.mem_filterMap.1 (show (s, id) ∈ voOf ops ts from h)
  split at h
  · rename_i hu
    obtain ⟨i, hi, e⟩ := Option.map_eq_some_iff.1 h
    cases e
    exact .inl ⟨hu, hi⟩
  · rename_i hu
    split at h
    · rename_i b hb
      split at h
      · rename_i i h1 h2
        split at h
        · rename_i h3
          cases h
          exact .inr ⟨hu, b, hb, h1, h2, h3⟩
        · cases h
      · cases h
    · cases h
theorem baseAt_ok {ts : List AV} {s id : Nat} (h : baseAt ts s = some id) : okB id (ts.getD s .top) = true := by
  unfold baseAt at h
  split at h
  · rename_i i k e
    cases h
    rw [e]
    simp [okB]
  · rename_i i k q e
    cases h
    rw [e]
    simp [okB]
  · rename_i i k q e
    cases h
    rw [e]
    simp [okB]
  · cases h
theorem voOf_ok (ops : Array Oper) (ts : List AV) : VoOk (roOf ops ts).2.1 ts := by
  rintro ⟨s, id⟩ h
  rcases voOf_mem h with ⟨_, h1⟩ | ⟨_, b, _, _, _, h1⟩
  · exact baseAt_ok h1
  · exact h1
theorem voOf_base {ops : Array Oper} {ts : List AV} {s id : Nat} (h1 : unwr ops s = true) (h2 : baseAt ts s = some id) : (s, id) ∈ (roOf ops ts).2.1 := by
  have hl : s < ts.length := by
    apply Classical.byContradiction
    intro hn
    unfold baseAt at h2
    rw [List.getD, List.getElem?_eq_none (by omega)] at h2
    cases h2
  refine List.mem_filterMap.2 ⟨s, List.mem_range.2 hl, ?_⟩
  simp only [h1, h2]
  rfl
theorem voOf_keep {ops : Array Oper} {ts : List AV} {k : Nat} {o : Oper} (ho : ops[k]? = some o) : VK (roOf ops ts).2.1 o := by
  intro d hd
  by_cases hin : ∃ id, (d, id) ∈ (roOf ops ts).2.1
  · obtain ⟨id, hid⟩ := hin
    have hm : o ∈ ops.toList := List.mem_of_getElem? (by rw [Array.getElem?_toList]; exact ho)
    have hu : unwr ops d = false := by
      unfold unwr
      rw [List.all_eq_false]
      exact ⟨o, hm, by simp [hd]⟩
    have key : ∀ id, (d, id) ∈ (roOf ops ts).2.1 → ∃ b, fieldBase ops d = some b ∧ unwr ops b = true ∧ baseAt ts b = some id := by
      intro id hid
      rcases voOf_mem hid with ⟨h1, _⟩ | ⟨_, b, h1, h2, h3, _⟩
      · rw [hu] at h1; cases h1
      · exact ⟨b, h1, h2, h3⟩
    obtain ⟨b, h1, h2, h3⟩ := key id hid
    refine .inr ?_
    have hf := h1
    unfold fieldBase at hf
    split at hf
    · rename_i o' ho'
      have hoo : o ∈ ops.toList.filter fun o => o.dst == some d := List.mem_filter.2 ⟨hm, by simp [hd]⟩
      rw [ho'] at hoo
      have : o = o' := by simpa using hoo
      subst this
      split at hf
      · rename_i b' hop
        cases hf
        refine ⟨b, hop, fun id' hid' => ?_⟩
        obtain ⟨b2, g1, g2, g3⟩ := key id' hid'
        rw [h1] at g1; cases g1
        exact voOf_base g2 g3
      · cases hf
    · cases hf
  · exact .inl fun id hid => hin ⟨id, hid⟩
theorem kindR_cases {ro : Nat → Bool} {o : Op} : kindR E ro o = kindOf E o ∨ (kindR E ro o = 0 ∧ ∃ t s, o = .load t (.tmp s) ∧ ro s = true) := by
  unfold kindR
  split
  · rename_i t s
    split
    · rename_i h
      exact .inr ⟨rfl, t, s, rfl, h⟩
    · exact .inl rfl
  · exact .inl rfl
theorem kindR_pos {ro : Nat → Bool} {o : Op} {n : Nat} (h : kindR E ro o = n + 1) : kindOf E o = n + 1 := by
  rcases kindR_cases (E := E) (ro := ro) (o := o) with h1 | ⟨h1, _⟩
  · rw [← h1]; exact h
  · rw [h1] at h; cases h
theorem step1_zeroR {ro : Nat → Bool} {o : Oper} {ts : List AV} {σ : AV} {H' : Hp} (hk : kindR E ro o.op = 0) (hro : RoOk ro ts) (h : step1 E call ops o ts H = some (σ, H')) : H' = H ∧ ∀ H2, step1 E call ops o ts H2 = some (σ, H2) := by
  rcases kindR_cases (E := E) (ro := ro) (o := o.op) with h1 | ⟨_, t, s, ho, hs⟩
  · exact step1_zero (h1 ▸ hk) h
  · have hr := hro s hs
    have key : ∀ (H H' : Hp) (σ : AV), opStep E call o ts H = some (σ, H') → H' = H ∧ ∀ H2, opStep E call o ts H2 = some (σ, H2) := by
      intro H H' σ h
      unfold opStep at h ⊢
      simp only [ho, opK, opnd] at h ⊢
      generalize ts.getD s .top = v at hr h ⊢
      cases v with
      | rptr t' l i j =>
        simp only [loadP] at h ⊢
        split at h
        · rename_i u h1 h2
          cases h
          refine ⟨rfl, fun H2 => ?_⟩
          first | rfl | rw [h1, h2]
        · cases h
      | sl t' l =>
        exfalso
        simp only [loadP] at h
        split at h
        · rename_i h1; cases h1
        · cases h
      | emp =>
        exfalso
        simp only [loadP] at h
        split at h
        · rename_i h1; cases h1
        · cases h
      | top =>
        exfalso
        simp only [loadP] at h
        split at h
        · rename_i h1; cases h1
        · cases h
      | raw u =>
        exfalso
        simp only [loadP] at h
        split at h
        · rename_i h1; cases h1
        · cases h
      | _ => cases hr
    unfold step1 at h ⊢
    rcases guard_cases ops ts o with hg | hg | hg
    · simp only [hg] at h ⊢; exact key _ _ _ h
    · simp only [hg] at h ⊢; cases h; exact ⟨rfl, fun _ => rfl⟩
    · simp only [hg] at h; cases h
structure Apart (E : Env) (ro : Ro) (ops : Array Oper) (a b : Oper) : Prop where
  ab : ∀ d, a.dst = some d → d ∉ looks ops b
  ba : ∀ d, b.dst = some d → d ∉ looks ops a
  ne : ∀ d, a.dst = some d → b.dst ≠ some d
  nila : nilOp a.op = false
  nilb : nilOp b.op = false
  kind : apartK (kindR E ro.1 a.op) (kindR E ro.1 b.op) = true ∨ apartSL ro.2.1 a.op b.op = true
  wa : RW ro.1 a
  wv : VK ro.2.1 a
  ia : mayInl E a.op = false
  ib : mayInl E b.op = false ∨ kindR E ro.1 a.op = 0
theorem apartK_cases {a b : Nat} (h : apartK a b = true) : a = 0 ∨ b = 0 ∨ (a = 1 ∧ b = 1) ∨ (a = 1 ∧ b = 2) ∨ (a = 2 ∧ b = 1) := by
  unfold apartK at h
  split at h
  · exact .inl rfl
  · exact .inr (.inl rfl)
  · exact .inr (.inr (.inl ⟨rfl, rfl⟩))
  · exact .inr (.inr (.inr (.inl ⟨rfl, rfl⟩)))
  · exact .inr (.inr (.inr (.inr ⟨rfl, rfl⟩)))
  · cases h
theorem opsK_cong {i : Nat} {r1 r2 : List Nat} {ts ts2 : List AV} {K : List AV → Hp → Option α} {o : Oper} (ho : ops[i]? = some o) (hI : mayInl E o.op = true)
    (hg : ∀ yes no : Option α, guardOf ops ts2 o yes no = guardOf ops ts o yes no) (hop : ∀ y ∈ o.op.operands, opnd E ts2 y = opnd E ts y)
    (hK : ∀ v H', opsK E call inl ops r2 (put ts2 o.dst v) H' K = opsK E call inl ops r1 (put ts o.dst v) H' K) : opsK E call inl ops (i :: r2) ts2 H K = opsK E call inl ops (i :: r1) ts H K := by
  simp only [opsK, ho, guardS_eq]
  rw [hg, hK]
  congr 1
  cases hc0 : o.op with
  | call c =>
    rw [hc0] at hI hop
    have h2 : c.args.toList.map (opnd E ts2) = c.args.toList.map (opnd E ts) := List.map_congr_left fun y hy => hop y (by simp only [Op.operands, Call.operands, Array.mem_append]; exact .inr (by simpa using hy))
    simp only []
    cases hc : c.callee with
    | builtin b => simp [mayInl, hc] at hI
    | value g =>
      have h1 : opnd E ts2 g = opnd E ts g := hop g (by simp [Op.operands, Call.operands, hc])
      simp only [h1, h2, hK]
    | invoke a b => rfl
  | _ => rw [hc0] at hI; cases hI
theorem swap {ro : Ro} {k i : Nat} {ok oi : Oper} {r : List Nat} {ts : List AV} {K : List AV → Hp → Option α} {x : α} (hk : ops[k]? = some ok) (hi : ops[i]? = some oi) (ha : Apart E ro ops ok oi) (hro : RoOk ro.1 ts) (hvo : VoOk ro.2.1 ts)
    (hb : kindR E ro.1 oi.op = 1 → ∀ y ∈ oi.op.operands, Bnd H.length (opnd E ts y))
    (h : opsK E call inl ops (k :: i :: r) ts H K = some x) : opsK E call inl ops (i :: k :: r) ts H K = some x := by
  rw [opsK_step1 hk ha.nila ha.ia] at h
  obtain ⟨⟨σk, Hk⟩, h1, h2⟩ := Option.bind_eq_some_iff.1 h
  simp only [] at h2
  cases hib : mayInl E oi.op with
  | true =>
    have hz : kindR E ro.1 ok.op = 0 := ha.ib.resolve_left fun e => by rw [hib] at e; cases e
    obtain ⟨rfl, h5⟩ := step1_zeroR hz hro h1
    rw [← h2]
    refine opsK_cong hi hib (fun _ _ => (guardOf_put ha.ab).symm) (fun y hy => (opnd_put fun t ht e => ha.ab t ht ?_).symm) fun v H' => ?_
    · simp only [looks, List.mem_append, List.mem_filterMap]
      exact .inl ⟨y, by simpa using hy, by rw [e]⟩
    · rw [opsK_step1 hk ha.nila ha.ia, step1_put ha.ba, h5 H', Option.bind_some, put_comm ha.ne]
  | false =>
  rw [opsK_step1 hi ha.nilb hib] at h2
  obtain ⟨⟨σi, Hi⟩, h3, h4⟩ := Option.bind_eq_some_iff.1 h2
  simp only [] at h4
  rw [step1_put ha.ab] at h3
  have : ∃ H1, step1 E call ops oi ts H = some (σi, H1) ∧ step1 E call ops ok ts H1 = some (σk, Hi) := by
    rcases ha.kind with hkind | hkind
    rotate_left
    · rcases apartSL_cases hkind with ⟨t, x', v, t', y, p, q, e1, e2, e3, e4, e5⟩ | ⟨t, x', v, t', y, p, q, e1, e2, e3, e4, e5⟩
      · obtain ⟨rfl, h6⟩ := step1_load e2 (ptrOf_ok (E := E) hvo e4) h3
        have h5 := (step1_store e1 (ptrOf_ok (E := E) hvo e3) h1).2 q (Ne.symm e5)
        exact ⟨_, h6 _ h5.symm, h1⟩
      · obtain ⟨rfl, h6⟩ := step1_load e2 (ptrOf_ok (E := E) hvo e4) h1
        have h5 := (step1_store e1 (ptrOf_ok (E := E) hvo e3) h3).2 q (Ne.symm e5)
        exact ⟨_, h3, h6 _ h5⟩
    rcases apartK_cases hkind with h0 | h0 | ⟨h0, h00⟩ | ⟨h0, h00⟩ | ⟨h0, h00⟩
    · obtain ⟨rfl, h5⟩ := step1_zeroR h0 hro h1
      exact ⟨_, h3, h5 _⟩
    · obtain ⟨rfl, h5⟩ := step1_zeroR h0 hro h3
      exact ⟨_, h5 _, h1⟩
    · obtain ⟨rfl, h5⟩ := step1_read (kindR_pos h0) h1
      obtain ⟨rfl, h6⟩ := step1_read (kindR_pos h00) h3
      exact ⟨_, h3, h1⟩
    · obtain ⟨rfl, h5⟩ := step1_read (kindR_pos h0) h1
      exact ⟨_, h3, h5 _ (step1_new (kindR_pos h00) h3)⟩
    · obtain ⟨rfl, h6⟩ := step1_read (kindR_pos h00) h3
      exact ⟨_, step1_anti (kindR_pos h00) h3 (step1_new (kindR_pos h0) h1) (hb h00), h1⟩
  obtain ⟨H1, k1, k2⟩ := this
  rw [opsK_step1 hi ha.nilb hib, k1]
  simp only [Option.bind_some]
  rw [opsK_step1 hk ha.nila ha.ia, step1_put ha.ba, k2]
  simp only [Option.bind_some]
  rw [← put_comm ha.ne]
  exact h4
theorem Bnd.mono {n m : Nat} {v : AV} (h : Bnd n v) (k : n ≤ m) : Bnd m v := ⟨fun i hi => Nat.lt_of_lt_of_le (h.1 i hi) k, fun i hi => Nat.lt_of_lt_of_le (h.2 i hi) k⟩
theorem RoOk.put {ro : Nat → Bool} {ts : List AV} {o : Oper} {σ : AV} (h : RoOk ro ts) (hk : RW ro o) (hs : FaOk E ts o.op σ) : RoOk ro (put ts o.dst σ) := by
  intro s hp
  by_cases hd : o.dst = some s
  · have hval : (Ev.put ts o.dst σ).getD s .top = σ ∨ (Ev.put ts o.dst σ).getD s .top = .top := by
      rw [hd]
      simp only [Ev.put, List.getD]
      by_cases hl : s < ts.length
      · exact .inl (by simp [hl])
      · exact .inr (by simp [hl])
    rcases hval with e | e
    · rw [e]
      obtain ⟨b, h1, h2⟩ := hk s hd hp
      exact (hs _ h1).2 (h b h2)
    · rw [e]; rfl
  · rw [put_getD hd]
    exact h s hp
theorem front {ro : Ro} {i : Nat} {oi : Oper} {l2 : List Nat} {K : List AV → Hp → Option α} {x : α} (hi : ops[i]? = some oi) : ∀ (l1 : List Nat) (ts : List AV) (H : Hp),
    (∀ k ∈ l1, ∃ ok, ops[k]? = some ok ∧ Apart E ro ops ok oi) → RoOk ro.1 ts → VoOk ro.2.1 ts → (kindR E ro.1 oi.op = 1 → ∀ y ∈ oi.op.operands, Bnd H.length (opnd E ts y)) →
    opsK E call inl ops (l1 ++ i :: l2) ts H K = some x → opsK E call inl ops (i :: (l1 ++ l2)) ts H K = some x
  | [], ts, H, _, _, _, _, h => h
  | k :: l1, ts, H, ha, hro, hvo, hb, h => by
    obtain ⟨ok, hk, hap⟩ := ha k (by simp)
    refine swap hk hi hap hro hvo hb ?_
    have h : opsK E call inl ops (k :: (l1 ++ i :: l2)) ts H K = some x := h
    rw [opsK_step1 hk hap.nila hap.ia] at h ⊢
    obtain ⟨⟨σk, Hk⟩, h1, h2⟩ := Option.bind_eq_some_iff.1 h
    simp only [] at h2
    rw [h1]
    simp only [Option.bind_some]
    refine front hi l1 _ _ (fun k' hk' => ha k' (by simp [hk'])) (hro.put (E := E) hap.wa (step1_fa h1)) (hvo.put (E := E) hap.wv (step1_fa h1)) (fun h0 y hy => ?_) h2
    have hl : H.length ≤ Hk.length := by
      rcases hap.kind with hkind | hkind
      rotate_left
      · rcases apartSL_cases hkind with ⟨t, x', v, t', y, p, q, e1, e2, e3, e4, e5⟩ | ⟨t, x', v, t', y, p, q, e1, e2, e3, e4, e5⟩
        · exact Nat.le_of_eq (step1_store e1 (ptrOf_ok (E := E) hvo e3) h1).1.symm
        · rw [(step1_load e2 (ptrOf_ok (E := E) hvo e4) h1).1]; exact Nat.le_refl _
      rcases apartK_cases hkind with h5 | h5 | ⟨h5, _⟩ | ⟨h5, h6⟩ | ⟨h5, _⟩
      · rw [(step1_zeroR h5 hro h1).1]; exact Nat.le_refl _
      · rw [h0] at h5; cases h5
      · rw [(step1_read (kindR_pos h5) h1).1]; exact Nat.le_refl _
      · rw [h0] at h6; cases h6
      · exact (step1_new (kindR_pos h5) h1).len
    rw [opnd_put fun t ht e => hap.ab t ht ?_]
    · exact (hb h0 y hy).mono hl
    · simp only [looks, List.mem_append, List.mem_filterMap]
      exact .inl ⟨y, by simpa using hy, by rw [e]⟩
end
end Go.Proofs.YtmojilihllhadaaGreatDoor.Ev
/- Regions whose order is drawn: the machine. -/
namespace Go.Proofs.YtmojilihllhadaaGreatDoor.Ev
open Go Go.RowKit
set_option linter.unusedVariables false
set_option linter.unusedSimpArgs false
section
variable {α : Type} {P : Program} {E : Env} {B : Nat → Prop} {F : Fz} {g : List GE} {w : World} {H H2 H3 : Hp}
variable {call : (g : FuncId) → List AV → Hp → Option (Ret E g)} {ops : Array Oper}
theorem VR2_bnd {v : AV} {u : Value} (h : VR2 F w g v u) : Bnd g.length v := by
  have own1 : ∀ {v : AV} {u : Value}, VR0 F w g v u → ∀ id ∈ ownIds [v], id < g.length := by
    intro v u h id hid
    cases v with
    | all i s n =>
      obtain ⟨e, A, h1, _⟩ := h
      simp [ownIds] at hid; subst hid
      exact (List.getElem?_eq_some_iff.1 h1).1
    | own i s o n =>
      obtain ⟨e, A, h1, _⟩ := h
      simp [ownIds] at hid; subst hid
      exact (List.getElem?_eq_some_iff.1 h1).1
    | _ => simp [ownIds] at hid
  constructor
  · intro id hid
    cases v with
    | all i s n =>
      obtain ⟨e, A, h1, _⟩ := h
      simp [leafIds] at hid; subst hid
      exact (List.getElem?_eq_some_iff.1 h1).1
    | own i s o n =>
      obtain ⟨e, A, h1, _⟩ := h
      simp [leafIds] at hid; subst hid
      exact (List.getElem?_eq_some_iff.1 h1).1
    | ptr i j =>
      obtain ⟨e, h1, _⟩ := h
      simp [leafIds] at hid; subst hid
      exact (List.getElem?_eq_some_iff.1 h1).1
    | eptr i j k =>
      obtain ⟨e, h1, _⟩ := h
      simp [leafIds] at hid; subst hid
      exact (List.getElem?_eq_some_iff.1 h1).1
    | aptr i s n =>
      obtain ⟨e, h1, _⟩ := h
      simp [leafIds] at hid; subst hid
      exact (List.getElem?_eq_some_iff.1 h1).1
    | slf i =>
      obtain ⟨e, h1, _⟩ := h
      simp [leafIds] at hid; subst hid
      exact (List.getElem?_eq_some_iff.1 h1).1
    | mp i =>
      obtain ⟨e, h1, _⟩ := h
      simp [leafIds] at hid; subst hid
      exact (List.getElem?_eq_some_iff.1 h1).1
    | _ => simp [leafIds] at hid
  · intro id hid
    cases v with
    | agg cs =>
      obtain ⟨vs, _, h⟩ := h
      replace hid : id ∈ ownIds cs := hid
      generalize vs.toList = l at h
      induction h with
      | nil => simp [ownIds] at hid
      | cons h1 t ih =>
        rw [ownIds_cons] at hid
        rcases List.mem_append.1 hid with hid | hid
        · exact own1 h1 id hid
        · exact ih hid
    | tup cs => simp [cellsOf, ownIds] at hid
    | fn f cs => simp [cellsOf, ownIds] at hid
    | all i s n => exact own1 (v := .all i s n) h id hid
    | own i s o n => exact own1 (v := .own i s o n) h id hid
    | _ => simp [cellsOf, ownIds] at hid
theorem edge_iff {j i : Nat} : edge ops j i = true ↔ ∃ o, ops[j]? = some o ∧ ∃ e ∈ o.after, e.on = i ∧ Region.binds .any e = true := by
  unfold edge
  cases h : ops[j]? with
  | none => simp
  | some o =>
    simp only [Option.map_some, Option.getD_some, Array.any_eq_true', Bool.and_eq_true, beq_iff_eq]
    constructor
    · rintro ⟨e, h1, h2, h3⟩; exact ⟨o, rfl, e, h1, h2, h3⟩
    · rintro ⟨o', h0, e, h1, h2, h3⟩; cases h0; exact ⟨e, h1, h2, h3⟩
def Closed (ops : Array Oper) (listed : Array Bool) : Prop := ∀ m, listed.getD m false = true → ∀ i, edge ops m i = true → listed.getD i false = true
theorem predsL_edge {j i : Nat} (h : i ∈ predsL ops j) : edge ops j i = true := by
  unfold predsL at h
  split at h
  · rename_i o ho
    obtain ⟨e, he, rfl⟩ := List.mem_map.1 h
    obtain ⟨h1, h2⟩ := List.mem_filter.1 he
    exact edge_iff.2 ⟨o, ho, e, by simpa using h1, rfl, h2⟩
  · cases h
theorem addNew_mem : ∀ (l acc : List Nat) (x : Nat), x ∈ addNew acc l → x ∈ acc ∨ x ∈ l
  | [], acc, x, h => .inl h
  | i :: r, acc, x, h => by
    simp only [addNew] at h
    rcases addNew_mem r _ x h with h | h
    · split at h
      · exact .inl h
      · rcases List.mem_append.1 h with h | h
        · exact .inl h
        · simp at h; subst h; exact .inr (by simp)
    · exact .inr (by simp [h])
theorem past_listed {listed : Array Bool} (hc : Closed ops listed) : ∀ (n : Nat) (acc : List Nat), (∀ a ∈ acc, listed.getD a false = true) → ∀ i ∈ past ops n acc, listed.getD i false = true
  | 0, acc, h, i, hi => h i hi
  | n + 1, acc, h, i, hi => by
    simp only [past] at hi
    split at hi
    · exact h i hi
    · refine past_listed hc n _ (fun a ha => ?_) i hi
      rcases addNew_mem _ _ a ha with ha | ha
      · exact h a ha
      · obtain ⟨m, hm, hma⟩ := List.mem_flatMap.1 ha
        exact hc m (h m hm) a (predsL_edge hma)
theorem mem_ready {listed : Array Bool} {i : Nat} : i ∈ Region.ready .any ops listed ↔ i < ops.size ∧ listed.getD i true = false ∧ ∀ j, edge ops i j = true → listed.getD j false = true := by
  unfold Region.ready
  simp only [List.mem_filter, List.mem_range, Bool.and_eq_true, Bool.not_eq_true']
  constructor
  · rintro ⟨h1, h2, h3⟩
    refine ⟨h1, h2, fun j hj => ?_⟩
    obtain ⟨o, ho, e, he, rfl, hb⟩ := edge_iff.1 hj
    rw [ho] at h3
    simp only [Option.map_some, Option.getD_some, Array.all_eq_true', Bool.or_eq_true, Bool.not_eq_true'] at h3
    rcases h3 e he with h | h
    · rw [hb] at h; cases h
    · exact h
  · rintro ⟨h1, h2, h3⟩
    refine ⟨h1, h2, ?_⟩
    rw [show ops[i]? = some ops[i] by simp [h1]]
    simp only [Option.map_some, Option.getD_some, Array.all_eq_true', Bool.or_eq_true, Bool.not_eq_true']
    intro e he
    cases hb : Region.binds .any e with
    | false => exact .inl rfl
    | true => exact .inr (h3 e.on (edge_iff.2 ⟨_, by simp [h1], e, he, rfl, hb⟩))
theorem getD_tf {listed : Array Bool} {i : Nat} (h : i < listed.size) (b c : Bool) : listed.getD i b = listed.getD i c := by
  simp [Array.getD, h]
theorem getD_set {listed : Array Bool} {i j : Nat} (h : i < listed.size) (b : Bool) : (listed.setIfInBounds i true).getD j b = if j = i then true else listed.getD j b := by
  by_cases hj : j = i
  · subst hj; simp [Array.getD, h]
  · simp only [Array.getD, hj, if_false]
    simp only [Array.size_setIfInBounds]
    split
    · rename_i h1
      simp only [Array.getInternal_eq_getElem]
      exact Array.getElem_setIfInBounds_ne h1 (Ne.symm hj)
    · rfl
theorem all_range {n : Nat} {p : Nat → Bool} (h : (List.range n).all p = true) {i : Nat} (hi : i < n) : p i = true := List.all_eq_true.1 h i (List.mem_range.2 hi)
theorem ready_nil (hback : backOk ops = true) {listed : Array Bool} (hl : listed.size = ops.size) (h : Region.ready .any ops listed = []) : ∀ i, i < ops.size → listed.getD i true = true := by
  intro i
  induction i using Nat.strongRecOn with
  | ind i ih =>
    intro hi
    cases hb : listed.getD i true with
    | true => rfl
    | false =>
      exfalso
      have : i ∈ Region.ready .any ops listed := by
        refine mem_ready.2 ⟨hi, hb, fun j hj => ?_⟩
        obtain ⟨o, ho, e, he, rfl, hbi⟩ := edge_iff.1 hj
        have := all_range hback hi
        rw [ho] at this
        simp only [Option.map_some, Option.getD_some, Bool.and_eq_true, Array.all_eq_true', Bool.or_eq_true, Bool.not_eq_true'] at this
        rcases this.1 e he with h' | h'
        · rw [hbi] at h'; cases h'
        · have hlt : e.on < i := by simpa [Nat.blt_eq] using h'
          rw [getD_tf (by rw [hl]; omega) false true]
          exact ih _ hlt (by omega)
      rw [h] at this
      cases this
def remOf (ops : Array Oper) (listed : Array Bool) : List Nat := (List.range ops.size).filter fun i => !listed.getD i true
theorem rem_sorted (listed : Array Bool) : (remOf ops listed).Pairwise (· < ·) := List.Pairwise.filter _ List.pairwise_lt_range
theorem filter_split {l1 l2 : List Nat} {i : Nat} (h : (l1 ++ i :: l2).Pairwise (· < ·)) : (l1 ++ i :: l2).filter (fun j => !(j == i)) = l1 ++ l2 := by
  rw [List.pairwise_append] at h
  obtain ⟨h1, h2, h3⟩ := h
  rw [List.pairwise_cons] at h2
  rw [List.filter_append, List.filter_cons]
  simp only [beq_self_eq_true, Bool.not_true, Bool.false_eq_true, if_false]
  congr 1
  · rw [List.filter_eq_self]
    intro a ha
    have := h3 a ha i (by simp)
    simp; omega
  · rw [List.filter_eq_self]
    intro a ha
    have := h2.1 a ha
    simp; omega
theorem rem_step {listed : Array Bool} (hl : listed.size = ops.size) {i : Nat} (hi : i < ops.size) {l1 l2 : List Nat} (h : remOf ops listed = l1 ++ i :: l2) : remOf ops (listed.setIfInBounds i true) = l1 ++ l2 := by
  have hs := rem_sorted (ops := ops) listed
  rw [h] at hs
  rw [← filter_split hs, ← h]
  unfold remOf
  rw [List.filter_filter]
  refine List.filter_congr fun j hj => ?_
  rw [getD_set (by rw [hl]; exact hi)]
  by_cases hji : j = i
  · subst hji; simp
  · simp [hji]
/-! #### variables that are made ahead of their turn -/
theorem All2_setL {α β : Type} {R : α → β → Prop} {l : List α} {m : List β} (h : All2 R l m) {x : α} : ∀ (n : Nat), (∀ v, m[n]? = some v → R x v) → All2 R (l.set n x) m := by
  induction h with
  | nil => intro n _; simpa using All2.nil
  | cons h t ih =>
    intro n hn
    cases n with
    | zero => exact .cons (hn _ rfl) t
    | succ n => exact .cons h (ih n fun v hv => hn v (by simpa using hv))
theorem All2_setR {α β : Type} {R : α → β → Prop} {l : List α} {m : List β} (h : All2 R l m) {y : β} : ∀ (n : Nat), (∀ x, l[n]? = some x → R x y) → All2 R l (m.set n y) := by
  induction h with
  | nil => intro n _; simpa using All2.nil
  | cons h t ih =>
    intro n hn
    cases n with
    | zero => exact .cons (hn _ rfl) t
    | succ n => exact .cons h (ih n fun v hv => hn v (by simpa using hv))
theorem Gr.mono {B B' : Nat → Prop} {F' : Fz} {g' : List GE} {w' : World} (h : Gr B F g w F' g' w') (k : ∀ i, B' i → B i) : Gr B' F g w F' g' w' :=
  ⟨h.up, fun b o x => (h.new b o x).imp id fun n y => n (k _ y), h.cell, h.ext, h.below.mono k⟩
theorem addNew_acc : ∀ (l acc : List Nat) (x : Nat), x ∈ acc → x ∈ addNew acc l
  | [], acc, x, h => h
  | i :: r, acc, x, h => by
    simp only [addNew]
    refine addNew_acc r _ x ?_
    split
    · exact h
    · exact List.mem_append_left _ h
theorem past_acc : ∀ (n : Nat) (acc : List Nat) (x : Nat), x ∈ acc → x ∈ past ops n acc
  | 0, acc, x, h => h
  | n + 1, acc, x, h => by
    simp only [past]
    split
    · exact h
    · exact past_acc n _ x (addNew_acc _ _ x h)
theorem past_nil : ∀ n, past ops n [] = []
  | 0 => rfl
  | n + 1 => by simp [past, addNew]
theorem ahead_none {k j : Nat} (h : predsL ops j = []) : aheadOf ops k j = false := by unfold aheadOf; rw [h, past_nil]; rfl
theorem past_pred : ∀ (n : Nat) (acc : List Nat) (x : Nat), x ∈ past ops n acc → x ∈ acc ∨ ∃ m ∈ past ops n acc, x ∈ predsL ops m
  | 0, acc, x, h => .inl h
  | n + 1, acc, x, h => by
    cases hb : Nat.beq (addNew acc (acc.flatMap (predsL ops))).length acc.length with
    | true =>
      have e : past ops (n + 1) acc = acc := by simp only [past, hb]
      rw [e] at h
      exact .inl h
    | false =>
      have e : past ops (n + 1) acc = past ops n (addNew acc (acc.flatMap (predsL ops))) := by simp only [past, hb]
      rw [e] at h ⊢
      rcases past_pred n _ x h with h1 | h1
      · rcases addNew_mem _ _ x h1 with h2 | h2
        · exact .inl h2
        · obtain ⟨m, hm, hx⟩ := List.mem_flatMap.1 h2
          exact .inr ⟨m, past_acc n _ m (addNew_acc _ _ m hm), hx⟩
      · exact .inr h1
structure Late (E : Env) (ops : Array Oper) (lt : List Nat) (j : Nat) (o : Oper) (d : Nat) (t : TypeId) : Prop where
  at_ : ops[j]? = some o
  op : o.op = .alloc t
  dst : o.dst = some d
  grd : o.guard = none
  arr : ∀ n e, (E.ti t).d ≠ .array n e
  zero : (E.ti t).zero.length = (E.ti t).size
  preds : predsL ops j = []
  mem : d ∈ lt
  only : ∀ k o', ops[k]? = some o' → o'.dst = some d → k = j
theorem late_of {lt : List Nat} {j : Nat} (h : lateAt E ops lt j = true) : ∃ o d t, Late E ops lt j o d t := by
  unfold lateAt at h
  split at h
  · rename_i o ho
    split at h
    · rename_i t ht
      split at h
      · cases h
      · rename_i d hd hg harr
        simp only [Bool.and_eq_true, beq_iff_eq, List.isEmpty_iff, List.contains_iff_mem] at h
        obtain ⟨⟨⟨h1, h2⟩, h3⟩, h4⟩ := h
        refine ⟨o, d, t, ho, ht, hd, hg, fun n e => harr n e, h1, h2, h3, fun k o' hk hk2 => ?_⟩
        have hks := (Array.getElem?_eq_some_iff.1 hk).1
        have := all_range h4 hks
        rw [hk] at this
        simp only [Option.map_some, Option.getD_some, Bool.or_eq_true, bne_iff_ne] at this
        rcases this with h | h
        · exact Nat.eq_of_beq_eq_true h
        · exact absurd hk2 h
      · cases h
    · cases h
  · cases h
structure Pnd where
  i : Nat
  d : Nat
  t : TypeId
  b : Nat
def BP (B : Nat → Prop) (Pre : List Pnd) : Nat → Prop := fun k => B k ∨ ∃ p ∈ Pre, p.b = k
structure PndOk (E : Env) (ops : Array Oper) (lt : List Nat) (B : Nat → Prop) (F : Fz) (w : World) (a : Act) (p : Pnd) : Prop where
  late : ∃ o, Late E ops lt p.i o p.d p.t
  tmp : ∀ v, a.tmps[p.d]? = some v → v = .pointer (some ⟨p.b, 0, none⟩)
  cells : ∃ zs : Array Value, w.heap[p.b]? = some (.cells zs p.t (0, 0)) ∧ ∀ F w g, All2 (VR0 F w g) (E.ti p.t).zero zs.toList
  nf : ∀ o, ¬ F p.b o
  nb : ¬ B p.b
def remP (ops : Array Oper) (listed : Array Bool) (Pre : List Pnd) : List Nat := (List.range ops.size).filter fun i => !listed.getD i true || Pre.any fun p => p.i == i
theorem remP_sorted (listed : Array Bool) (Pre : List Pnd) : (remP ops listed Pre).Pairwise (· < ·) := List.Pairwise.filter _ List.pairwise_lt_range
theorem remP_mem {listed : Array Bool} {Pre : List Pnd} {i : Nat} : i ∈ remP ops listed Pre ↔ i < ops.size ∧ (listed.getD i true = false ∨ ∃ p ∈ Pre, p.i = i) := by
  unfold remP
  rw [List.mem_filter, List.mem_range, Bool.or_eq_true, List.any_eq_true]
  simp
structure Mid (E : Env) (call : (g : FuncId) → List AV → Hp → Option (Ret E g)) (inl : FI → List AV → Hp → Fin α → Option α) (ops : Array Oper) (ro : Ro) (B0 : Nat → Prop) (F0 : Fz) (g0 : List GE) (w0 : World) (K : List AV → Hp → Option α) (x : α) (listed : Array Bool)
    (Pre : List Pnd) (ts : List AV) (H : Hp) (g : List GE) (F : Fz) (w : World) (a : Act) : Prop where
  pre : ∀ q ∈ Pre, PndOk E ops ro.2.2 B0 F w a q
  lst : ∀ q ∈ Pre, q.i < ops.size ∧ listed.getD q.i true = true
  fre : ∀ q ∈ Pre, ∀ m, listed.getD m false = true → q.i ∉ predsL ops m
  dis : ∀ q ∈ Pre, ∀ r ∈ Pre, (q.b = r.b ∨ q.i = r.i) → q = r
  run : opsK E call inl ops (remP ops listed Pre) ts H K = some x
  st : St (BP B0 Pre) F g w H ts a
  gr : Gr B0 F0 g0 w0 F g w
  rok : RoOk ro.1 ts
  vok : VoOk ro.2.1 ts
  top : ∀ j o d t, Late E ops ro.2.2 j o d t → (listed.getD j true = false ∨ ∃ q ∈ Pre, q.i = j) → ts.getD d .top = .top
theorem HR_add {B1 B2 : Nat → Prop} {b : Nat} {T : TypeId} {cs : List AV} {zs : Array Value} (hH : HR B1 F w g H) (h1 : B1 b) (h12 : ∀ k, B2 k → B1 k) (h2 : ¬ B2 b) (hb : w.heap[b]? = some (.cells zs T (0, 0))) (hf : ∀ o, ¬ F b o) (hz : ∀ F w g, All2 (VR0 F w g) cs zs.toList) :
    Gr B1 F g w F (g ++ [⟨⟨b, 0, none⟩, 0, 0, 0⟩]) w ∧ HR B2 F w (g ++ [⟨⟨b, 0, none⟩, 0, 0, 0⟩]) (H ++ [.var T cs]) := by
  have hg : Gr B1 F g w F (g ++ [⟨⟨b, 0, none⟩, 0, 0, 0⟩]) w := ⟨fun _ _ h => h, fun _ _ h => .inl h, fun _ _ _ _ h => h, fun i f h => ext_snoc g _ i f h, Sam.refl _ _⟩
  have hlen := hH.len
  have hbs : b < w.heap.size := (Array.getElem?_eq_some_iff.1 hb).1
  have hpair : ∀ (i : Nat) (c : Blk) (f : GE), (H ++ [.var T cs])[i]? = some c → (g ++ [⟨⟨b, 0, none⟩, 0, 0, 0⟩])[i]? = some f → (H[i]? = some c ∧ g[i]? = some f) ∨ (i = H.length ∧ c = .var T cs ∧ f = ⟨⟨b, 0, none⟩, 0, 0, 0⟩) := by
    intro i c f hc hf
    rcases get_snoc hc with ⟨h1, h2⟩ | ⟨h1, h2⟩ <;> rcases get_snoc hf with ⟨h3, h4⟩ | ⟨h3, h4⟩
    · exact .inl ⟨h2, h4⟩
    · omega
    · omega
    · exact .inr ⟨h1, h2, h4⟩
  refine ⟨hg, by simp [hlen], fun i c e hc he => ?_, fun i c e hc he hr => ?_, fun i j c c' e f hc hc' he hf' hr hr' hij => ?_, fun k o hk => ?_⟩
  · rcases hpair i c e hc he with ⟨q1, q2⟩ | ⟨_, rfl, rfl⟩
    · exact BR_gr hg (fun _ => rfl) (hH.blk i c e q1 q2)
    · exact ⟨rfl, rfl, zs, hb, hz _ _ _⟩
  · rcases hpair i c e hc he with ⟨q1, q2⟩ | ⟨_, rfl, rfl⟩
    · exact ⟨fun h => (hH.own i c e q1 q2 hr).1 (h12 _ h), (hH.own i c e q1 q2 hr).2⟩
    · exact ⟨h2, hbs⟩
  · rcases hpair i c e hc he with ⟨q1, q2⟩ | ⟨q0, rfl, rfl⟩ <;> rcases hpair j c' f hc' hf' with ⟨q3, q4⟩ | ⟨q5, rfl, rfl⟩
    · exact hH.sep i j c c' e f q1 q3 q2 q4 hr hr' hij
    · intro e'; exact (hH.own i c e q1 q2 hr).1 (by rw [e']; exact h1)
    · intro e'; exact (hH.own j c' f q3 q4 hr').1 (by rw [← e']; exact h1)
    · omega
  · refine ⟨(hH.frz k o hk).1, fun i c e hc he hr hek => ?_⟩
    rcases hpair i c e hc he with ⟨q1, q2⟩ | ⟨_, rfl, rfl⟩
    · exact (hH.frz k o hk).2 i c e q1 q2 hr hek
    · have hek : b = k := hek
      subst hek
      exact absurd hk (hf o)
theorem flush_one {inl : FI → List AV → Hp → Fin α → Option α} {ro : Ro} {B0 : Nat → Prop} {F0 : Fz} {g0 : List GE} {w0 : World} {K : List AV → Hp → Option α} {x : α} {listed : Array Bool} {Pre : List Pnd} {ts : List AV} {a : Act} (hwvo : ∀ (k : Nat) (o : Oper), ops[k]? = some o → VK ro.2.1 o) (hwro : ∀ (k : Nat) (o : Oper), ops[k]? = some o → RW ro.1 o)
    (hm : Mid E call inl ops ro B0 F0 g0 w0 K x listed Pre ts H g F w a) {p : Pnd} (hp : p ∈ Pre) (hap : ∀ k ∈ remP ops listed Pre, k < p.i → ∃ ok op, ops[k]? = some ok ∧ ops[p.i]? = some op ∧ Apart E ro ops ok op) :
    ∃ ts' H' g', Mid E call inl ops ro B0 F0 g0 w0 K x listed (Pre.filter fun q => !(q.i == p.i)) ts' H' g' F w a := by
  obtain ⟨⟨o, hl⟩, htmp, ⟨zs, hz1, hz2⟩, hnf, hnb⟩ := hm.pre p hp
  obtain ⟨hps, hpl⟩ := hm.lst p hp
  have hin : p.i ∈ remP ops listed Pre := remP_mem.2 ⟨hps, .inr ⟨p, hp, rfl⟩⟩
  obtain ⟨l1, l2, hrem⟩ := List.append_of_mem hin
  have hsort := remP_sorted (ops := ops) listed Pre
  have hsort2 := hsort
  rw [hrem] at hsort2
  rw [hrem, List.pairwise_append] at hsort
  have hrun := hm.run
  rw [hrem] at hrun
  have hrun := front (ro := ro) hl.at_ l1 ts H (fun k hk => by
    obtain ⟨ok, op, q1, q2, q3⟩ := hap k (by rw [hrem]; simp [hk]) (hsort.2.2 k hk p.i (by simp))
    rw [hl.at_] at q2; cases q2
    exact ⟨ok, q1, q3⟩) hm.rok hm.vok (fun h => by rw [hl.op] at h; cases h) hrun
  have hrun2 : opsK E call inl ops (l1 ++ l2) (put ts o.dst (.ptr H.length 0)) (H ++ [.var p.t (E.ti p.t).zero]) K = some x := by
    have hz : ((E.ti p.t).zero.length == (E.ti p.t).size) = true := by rw [hl.zero]; simp
    simp only [opsK, hl.at_, guardS, hl.grd, hl.op, opK, hz] at hrun
    split at hrun
    · rename_i n e hd; exact absurd hd (hl.arr n e)
    · exact hrun
  have hrem' : remP ops listed (Pre.filter fun q => !(q.i == p.i)) = l1 ++ l2 := by
    rw [← filter_split hsort2, ← hrem]
    unfold remP
    rw [List.filter_filter]
    refine List.filter_congr fun j hj => ?_
    have hany : (Pre.filter fun q => !(q.i == p.i)).any (fun q => q.i == j) = (!(j == p.i) && Pre.any fun q => q.i == j) := by
      rw [Bool.eq_iff_iff, List.any_eq_true, Bool.and_eq_true, List.any_eq_true]
      constructor
      · rintro ⟨q, hq, e⟩
        obtain ⟨q1, q2⟩ := List.mem_filter.1 hq
        have e := eq_of_beq e
        subst e
        exact ⟨q2, q, q1, by simp⟩
      · rintro ⟨e1, q, hq, e2⟩
        have e2 := eq_of_beq e2
        subst e2
        exact ⟨q, List.mem_filter.2 ⟨hq, e1⟩, by simp⟩
    rw [hany]
    cases hjp : (j == p.i) with
    | true =>
      have := eq_of_beq hjp
      subst this
      rw [hpl]; rfl
    | false => simp
  have hsub : ∀ k, BP B0 (Pre.filter fun q => !(q.i == p.i)) k → BP B0 Pre k := by
    rintro k (h | ⟨q, hq, e⟩)
    · exact .inl h
    · exact .inr ⟨q, (List.mem_filter.1 hq).1, e⟩
  obtain ⟨hg1, hH1⟩ := HR_add (B2 := BP B0 (Pre.filter fun q => !(q.i == p.i))) hm.st.heap (.inr ⟨p, hp, rfl⟩) hsub (by
    rintro (h | ⟨q, hq, e⟩)
    · exact hnb h
    · obtain ⟨q1, q2⟩ := List.mem_filter.1 hq
      have := hm.dis q q1 p hp (.inl e)
      subst this
      simp at q2) hz1 hnf hz2
  have hfa : FaOk E ts o.op (.ptr H.length 0) := fun y e => by rw [hl.op] at e; cases e
  refine ⟨put ts o.dst (.ptr H.length 0), _, _, fun q hq => hm.pre q (List.mem_filter.1 hq).1, fun q hq => hm.lst q (List.mem_filter.1 hq).1, fun q hq => hm.fre q (List.mem_filter.1 hq).1, fun q hq r hr => hm.dis q (List.mem_filter.1 hq).1 r (List.mem_filter.1 hr).1, by rw [hrem']; exact hrun2,
    ⟨?_, hH1, fun k hk => hm.st.base k (hsub k hk), hm.st.defers⟩, hm.gr.trans (hg1.mono fun i h => .inl h), hm.rok.put (E := E) (hwro p.i o hl.at_) hfa, hm.vok.put (E := E) (hwvo p.i o hl.at_) hfa, fun j o' d' t' hl' hc => ?_⟩
  · rw [hl.dst]
    refine All2_setL (hm.st.tmps.mono fun _ _ => VR2_gr hg1) p.d fun v hv => ?_
    have := htmp v (by simpa using hv)
    subst this
    exact ⟨⟨⟨p.b, 0, none⟩, 0, 0, 0⟩, by rw [← hm.st.heap.len, List.getElem?_append_right (Nat.le_refl _)]; simp, rfl⟩
  · have hjp : j ≠ p.i := by
      rintro rfl
      rcases hc with h | ⟨q, hq, e⟩
      · rw [getD_tf (by
          apply Classical.byContradiction
          intro hn
          simp [Array.getD, hn] at h) true true] at h
        rw [hpl] at h; cases h
      · have := (List.mem_filter.1 hq).2
        simp [e] at this
    rw [put_getD]
    · refine hm.top j o' d' t' hl' (hc.imp id ?_)
      rintro ⟨q, hq, e⟩
      exact ⟨q, (List.mem_filter.1 hq).1, e⟩
    · rw [hl.dst]
      intro e
      cases e
      exact hjp (hl.only j o' hl'.at_ hl'.dst)
theorem min_i : ∀ (L : List Pnd), L ≠ [] → ∃ p ∈ L, ∀ q ∈ L, p.i ≤ q.i
  | [], h => absurd rfl h
  | [p], _ => ⟨p, by simp, fun q hq => by simp at hq; subst hq; exact Nat.le_refl _⟩
  | p :: q :: r, _ => by
    obtain ⟨m, hm, h⟩ := min_i (q :: r) (by simp)
    by_cases hpm : p.i ≤ m.i
    · refine ⟨p, by simp, fun z hz => ?_⟩
      rcases List.mem_cons.1 hz with rfl | hz
      · exact Nat.le_refl _
      · exact Nat.le_trans hpm (h z hz)
    · refine ⟨m, List.mem_cons_of_mem _ hm, fun z hz => ?_⟩
      rcases List.mem_cons.1 hz with rfl | hz
      · omega
      · exact h z hz
theorem flush_all {inl : FI → List AV → Hp → Fin α → Option α} {ro : Ro} {B0 : Nat → Prop} {F0 : Fz} {g0 : List GE} {w0 : World} {K : List AV → Hp → Option α} {x : α} {listed : Array Bool} {a : Act} (hwvo : ∀ (k : Nat) (o : Oper), ops[k]? = some o → VK ro.2.1 o) (hwro : ∀ (k : Nat) (o : Oper), ops[k]? = some o → RW ro.1 o) (c : Nat → Bool) :
    ∀ (n : Nat) (Pre : List Pnd) (ts : List AV) (H : Hp) (g : List GE), (Pre.filter fun q => c q.i).length ≤ n → Mid E call inl ops ro B0 F0 g0 w0 K x listed Pre ts H g F w a →
    (∀ p ∈ Pre, c p.i = true → ∀ k ∈ remP ops listed Pre, k < p.i → (∃ ok op, ops[k]? = some ok ∧ ops[p.i]? = some op ∧ Apart E ro ops ok op) ∨ ∃ q ∈ Pre, q.i = k ∧ c k = true) →
    ∃ Pre' ts' H' g', Mid E call inl ops ro B0 F0 g0 w0 K x listed Pre' ts' H' g' F w a ∧ ∀ q ∈ Pre', q ∈ Pre ∧ c q.i = false := by
  intro n
  induction n with
  | zero =>
    intro Pre ts H g hn hm hc
    refine ⟨Pre, ts, H, g, hm, fun q hq => ⟨hq, ?_⟩⟩
    cases hcq : c q.i with
    | false => rfl
    | true =>
      have : q ∈ Pre.filter fun q => c q.i := List.mem_filter.2 ⟨hq, hcq⟩
      rw [List.length_eq_zero_iff.1 (Nat.le_zero.1 hn)] at this
      cases this
  | succ n ih =>
    intro Pre ts H g hn hm hc
    by_cases he : (Pre.filter fun q => c q.i) = []
    · refine ⟨Pre, ts, H, g, hm, fun q hq => ⟨hq, ?_⟩⟩
      cases hcq : c q.i with
      | false => rfl
      | true =>
        have : q ∈ Pre.filter fun q => c q.i := List.mem_filter.2 ⟨hq, hcq⟩
        rw [he] at this
        cases this
    · obtain ⟨p, hp, hmin⟩ := min_i _ he
      obtain ⟨hp1, hp2⟩ := List.mem_filter.1 hp
      obtain ⟨ts', H', g', hm'⟩ := flush_one hwvo hwro hm hp1 fun k hk hkp => by
        rcases hc p hp1 hp2 k hk hkp with h | ⟨q, hq, e1, e2⟩
        · exact h
        · exfalso
          have := hmin q (List.mem_filter.2 ⟨hq, by rw [e1]; exact e2⟩)
          omega
      obtain ⟨Pre', ts2, H2, g2, k1, k2⟩ := ih _ ts' H' g' (by
        have e : ((Pre.filter fun q => !(q.i == p.i)).filter fun q => c q.i) = (Pre.filter fun q => c q.i).filter fun q => !(q.i == p.i) := by
          rw [List.filter_filter, List.filter_filter]; exact List.filter_congr fun a _ => Bool.and_comm _ _
        rw [e]
        have : ((Pre.filter fun q => c q.i).filter fun q => !(q.i == p.i)).length < (Pre.filter fun q => c q.i).length := List.length_filter_lt_length_iff_exists.2 ⟨p, hp, by simp⟩
        omega) hm' fun q hq hcq k hk hkq => by
          obtain ⟨q1, q2⟩ := List.mem_filter.1 hq
          obtain ⟨r1, r2⟩ := remP_mem.1 hk
          rcases hc q q1 hcq k (remP_mem.2 ⟨r1, r2.imp id fun ⟨z, hz, e⟩ => ⟨z, (List.mem_filter.1 hz).1, e⟩⟩) hkq with h | ⟨z, hz, e1, e2⟩
          · exact .inl h
          · refine .inr ?_
            rcases r2 with r2 | ⟨z', hz', e⟩
            · have := (hm.lst z hz).2
              rw [e1, r2] at this; cases this
            · exact ⟨z', hz', e, e2⟩
      exact ⟨Pre', ts2, H2, g2, k1, fun q hq => ⟨(List.mem_filter.1 (k2 q hq).1).1, (k2 q hq).2⟩⟩
theorem alloc_wp (hE : ∀ t, TiOk P E t) {i : Nat} {o : Oper} {d : Nat} {t : TypeId} {lt : List Nat} (hl : Late E ops lt i o d t) {a : Act} {Post : Act → World → Prop} {Q : Exit → Act → World → Prop}
    (h : ∀ zs : Array Value, (∀ F w g, All2 (VR0 F w g) (E.ti t).zero zs.toList) → Post (a.put (some d) (.pointer (some ⟨w.heap.size, 0, none⟩))) (w.alloc (.cells zs t))) : wpOp P ops Q i Post a w := by
  have hne : (E.ti t).size ≠ 1000000000 := by
    have := (hE t).zlen
    have := hl.zero
    omega
  obtain ⟨i', z, h1, h2, h3, h4, h5, h6⟩ := (hE t).info hne
  have hrun : (Instr.alloc t true (.tuple #[])).run P w = .ok (.pointer (some ⟨w.heap.size, 0, none⟩)) (w.alloc (.cells z.cells t)) := by
    simp [Instr.alloc, zeroValue, typeInfo, program, Sem.run_bind, Sem.run, h1, h5, Result.andThen, newVar, newRow]
  have hx : execOp a.eval o = (do pure (.value (← Instr.alloc t true (.tuple #[])))) := by simp only [execOp, hl.op]
  have hx2 : (execOp a.eval o).run P w = .ok (.value (.pointer (some ⟨w.heap.size, 0, none⟩))) (w.alloc (.cells z.cells t)) := by
    rw [hx]
    simp only [Sem.run_bind, hrun, Result.andThen]; rfl
  unfold wpOp
  simp only [hl.at_]
  have hw : Region.wanted o (yielded ops a.tmps) = true := by simp [Region.wanted, hl.grd]
  rw [if_pos hw]
  refine .inl ?_
  unfold Oper.wp
  rw [hx2]
  have := h z.cells (h6 hl.zero)
  rw [← hl.dst] at this
  exact this
theorem drawn_any (hE : ∀ t, TiOk P E t) (hfi : FiOk P E) (hcall : CallOk P E call) {inl : FI → List AV → Hp → Fin α → Option α} (hinl : ∀ B, InlOk P E B inl) {ro : Ro} (hwvo : ∀ (k : Nat) (o : Oper), ops[k]? = some o → VK ro.2.1 o) (hwro : ∀ (k : Nat) (o : Oper), ops[k]? = some o → RW ro.1 o) (hd : drawOk E ro ops = true) {K : List AV → Hp → Option α} {x : α} {Q : Exit → Act → World → Prop}
    {B0 : Nat → Prop} {F0 : Fz} {g0 : List GE} {w0 : World} (hG : GlobOk E B0 F0 w0)
    (hK : ∀ ts' H' a' w' F' g', K ts' H' = some x → St B0 F' g' w' H' ts' a' → GlobOk E B0 F' w' → Gr B0 F0 g0 w0 F' g' w' → Q .normal a' w') :
    ∀ (fuel : Nat) (listed : Array Bool) (Pre : List Pnd) (ts : List AV) (H : Hp) (a : Act) (w : World) (F : Fz) (g : List GE), listed.size = ops.size → (remOf ops listed).length ≤ fuel → Closed ops listed →
    Mid E call inl ops ro B0 F0 g0 w0 K x listed Pre ts H g F w a → wpAny P .any ops Q fuel listed a w := by
  have ⟨hback, hpair⟩ := Bool.and_eq_true_iff.1 hd
  have nl : ∀ (q : Nat) (hq : q < ops.size), nilOp ops[q].op = false := fun q hq => by
    have := all_range hback hq
    rw [show ops[q]? = some ops[q] by simp [hq]] at this
    simp only [Option.map_some, Option.getD_some, Bool.and_eq_true, Bool.not_eq_true'] at this
    exact this.2
  have hpr : ∀ k i (hki : k < i) (hi1 : i < ops.size), aheadOf ops k i = true ∨ Apart E ro ops (ops[k]'(by omega)) ops[i] ∨ (lateAt E ops ro.2.2 i = true ∧ lateOk ops k i = true) := by
    intro k i hlt hi1
    have hp := all_range (all_range hpair hi1) hlt
    rw [show ops[i]? = some ops[i] by simp [hi1], show ops[k]? = some (ops[k]'(by omega)) by simp] at hp
    simp only [Bool.or_eq_true, Bool.and_eq_true] at hp
    rcases hp with (hp | ⟨⟨⟨p1, p2⟩, p3⟩, p4, p5⟩) | hp
    · exact .inl hp
    · refine .inr (.inl ⟨fun d hd => ?_, fun d hd => ?_, fun d hd => ?_, nl k (by omega), nl i hi1, p3, hwro k _ (by simp), hwvo k _ (by simp), by simpa using p4, by simpa using p5⟩)
      · rw [hd] at p1
        simp at p1; exact p1.1
      · rw [hd] at p2
        simp at p2; exact p2
      · rw [hd] at p1
        simp at p1; exact p1.2
    · exact .inr (.inr hp)
  have hend : ∀ (listed : Array Bool) (Pre : List Pnd) (ts : List AV) (H : Hp) (a : Act) (w : World) (F : Fz) (g : List GE), remOf ops listed = [] → Mid E call inl ops ro B0 F0 g0 w0 K x listed Pre ts H g F w a → Q .normal a w := by
    intro listed Pre ts H a w F g hr hm
    have hall : ∀ k, k < ops.size → listed.getD k true = true := by
      intro k hk
      cases hb : listed.getD k true with
      | true => rfl
      | false =>
        have : k ∈ remOf ops listed := List.mem_filter.2 ⟨List.mem_range.2 hk, by rw [hb]; rfl⟩
        rw [hr] at this
        cases this
    obtain ⟨Pre', ts', H', g', hm', hn⟩ := flush_all hwvo hwro (fun _ => true) Pre.length Pre ts H g (List.length_filter_le ..) hm fun p hp _ k hk hkp => by
      obtain ⟨r1, r2⟩ := remP_mem.1 hk
      rcases r2 with r2 | ⟨q, hq, e⟩
      · rw [hall k r1] at r2; cases r2
      · exact .inr ⟨q, hq, e, rfl⟩
    have hnil : Pre' = [] := by
      cases Pre' with
      | nil => rfl
      | cons q r => have := (hn q (by simp)).2; cases this
    subst hnil
    have hr2 : remP ops listed [] = [] := by
      rw [List.eq_nil_iff_forall_not_mem]
      intro k hk
      obtain ⟨r1, r2⟩ := remP_mem.1 hk
      rcases r2 with r2 | ⟨q, hq, _⟩
      · rw [hall k r1] at r2; cases r2
      · cases hq
    have hrun := hm'.run
    rw [hr2] at hrun
    have hst := hm'.st
    have hB : ∀ k, BP B0 [] k ↔ B0 k := fun k => ⟨fun h => h.elim id fun ⟨_, h, _⟩ => (by cases h), .inl⟩
    have hBe : BP B0 [] = B0 := funext fun k => propext (hB k)
    rw [hBe] at hst
    exact hK ts' H' a w F g' hrun hst (hG.gr hm'.gr) hm'.gr
  intro fuel
  induction fuel with
  | zero =>
    intro listed Pre ts H a w F g hl hf hc hm
    have hr : remOf ops listed = [] := List.length_eq_zero_iff.1 (by omega)
    refine ⟨?_, hend listed Pre ts H a w F g hr hm⟩
    rw [List.eq_nil_iff_forall_not_mem]
    intro i hi
    have ⟨h1, h2, _⟩ := mem_ready.1 hi
    have : i ∈ remOf ops listed := List.mem_filter.2 ⟨List.mem_range.2 h1, by rw [h2]; rfl⟩
    rw [hr] at this
    cases this
  | succ fuel ih =>
    intro listed Pre ts H a w F g hl hf hc hm
    refine ⟨fun hnil => ?_, fun i hi => ?_⟩
    · have hall := ready_nil hback hl hnil
      have hr : remOf ops listed = [] := by
        unfold remOf
        rw [List.filter_eq_nil_iff]
        intro i hi
        rw [hall i (List.mem_range.1 hi)]
        simp
      exact hend listed Pre ts H a w F g hr hm
    · obtain ⟨hi1, hi2, hi3⟩ := mem_ready.1 hi
      have hoi : ops[i]? = some ops[i] := by simp [hi1]
      have hmem : i ∈ remOf ops listed := List.mem_filter.2 ⟨List.mem_range.2 hi1, by rw [hi2]; rfl⟩
      have hset : ∀ j, (listed.setIfInBounds i true).getD j true = if j = i then true else listed.getD j true := fun j => getD_set (by omega) true
      have hclosed : Closed ops (listed.setIfInBounds i true) := by
        intro m hm j hj
        rw [getD_set (by omega)] at hm ⊢
        split
        · rfl
        · split at hm
          · rename_i hmi; subst hmi; exact hi3 j hj
          · exact hc m hm j hj
      have hfuel : (remOf ops (listed.setIfInBounds i true)).length ≤ fuel := by
        obtain ⟨l1, l2, hrem⟩ := List.append_of_mem hmem
        rw [rem_step hl hi1 hrem]
        rw [hrem] at hf; simp at hf ⊢; omega
      have hsz : (listed.setIfInBounds i true).size = ops.size := by simpa using hl
      have hdone : ∀ k, k < ops.size → aheadOf ops k i = true → listed.getD k true = true := by
        intro k hk hp
        unfold aheadOf at hp
        have hin : k ∈ past ops ops.size (predsL ops i) := by simpa using hp
        have := past_listed hc _ _ (fun a ha => hi3 a (predsL_edge ha)) k hin
        rw [getD_tf (by omega) true false]; exact this
      have hdir : ∀ q ∈ Pre, aheadOf ops q.i i = true → (predsL ops i).contains q.i = true := by
        intro q hq hp
        unfold aheadOf at hp
        have hin : q.i ∈ past ops ops.size (predsL ops i) := by simpa using hp
        rcases past_pred _ _ _ hin with h | ⟨m, hm1, hm2⟩
        · simpa using h
        · exact absurd hm2 (hm.fre q hq m (past_listed hc _ _ (fun a ha => hi3 a (predsL_edge ha)) m hm1))
      cases hlt : lateAt E ops ro.2.2 i with
      | true =>
        obtain ⟨o, d, t, hL⟩ := late_of hlt
        refine alloc_wp hE hL fun zs hzs => ?_
        have hnw := News.alloc w (.cells zs t)
        have hgr := hnw.gr hm.st.heap hm.st.base
        have hsize : (w.alloc (.cells zs t)).heap.size = w.heap.size + 1 := by simp
        have hget : (w.alloc (.cells zs t)).heap[w.heap.size]? = some (.cells zs t (0, 0)) := alloc_get w _
        have htop := hm.top i o d t hL (.inl hi2)
        have hfresh := hm.st.base.fresh
        have hbp : ∀ k, BP B0 (⟨i, d, t, w.heap.size⟩ :: Pre) k → BP B0 Pre k ∨ k = w.heap.size := by
          rintro k (h | ⟨q, hq, e⟩)
          · exact .inl (.inl h)
          · rcases List.mem_cons.1 hq with rfl | hq
            · exact .inr e.symm
            · exact .inl (.inr ⟨q, hq, e⟩)
        have hb1 : ∀ q ∈ Pre, q.b < w.heap.size := fun q hq => hm.st.base _ (.inr ⟨q, hq, rfl⟩)
        have hi4 : ∀ q ∈ Pre, q.i ≠ i := by
          intro q hq e
          have := (hm.lst q hq).2
          rw [e, hi2] at this; cases this
        have hd4 : ∀ q ∈ Pre, q.d ≠ d := by
          intro q hq e
          obtain ⟨⟨o', hL'⟩, _⟩ := hm.pre q hq
          exact hi4 q hq (hL.only q.i o' hL'.at_ (by rw [hL'.dst, e]))
        refine ih _ (⟨i, d, t, w.heap.size⟩ :: Pre) ts H _ _ F g hsz hfuel hclosed ⟨?_, ?_, ?_, ?_, ?_, ?_, ?_, hm.rok, hm.vok, ?_⟩
        · intro q hq
          rcases List.mem_cons.1 hq with rfl | hq
          · refine ⟨⟨o, hL⟩, fun v hv => ?_, ⟨zs, hget, hzs⟩, fun o' ho' => ?_, fun h => hfresh (.inl h)⟩
            · simp only [Act.put] at hv
              rw [Array.getElem?_setIfInBounds] at hv
              split at hv
              · split at hv
                · cases hv; rfl
                · cases hv
              · rename_i h; exact absurd rfl h
            · exact absurd (hm.st.heap.frz _ o' ho').1 (Nat.lt_irrefl _)
          · obtain ⟨k1, k2, ⟨zs', k3, k4⟩, k5, k6⟩ := hm.pre q hq
            exact ⟨k1, fun v hv => k2 v (by rw [← aput_get (v := .pointer (some ⟨w.heap.size, 0, none⟩)) (dd := some d) (fun e => hd4 q hq (by cases e; rfl))]; exact hv), ⟨zs', by rw [hnw.old _ (hb1 q hq)]; exact k3, k4⟩, k5, k6⟩
        · intro q hq
          rcases List.mem_cons.1 hq with rfl | hq
          · exact ⟨hi1, by rw [hset]; simp⟩
          · exact ⟨(hm.lst q hq).1, by rw [hset]; split; rfl; exact (hm.lst q hq).2⟩
        · intro q hq m hm1 hm2
          have hmi : m ≠ i := by
            rintro rfl
            rw [hL.preds] at hm2; cases hm2
          rw [getD_set (by omega), if_neg hmi] at hm1
          rcases List.mem_cons.1 hq with rfl | hq
          · have := hc m hm1 i (predsL_edge hm2)
            rw [getD_tf (by omega) false true, hi2] at this; cases this
          · exact hm.fre q hq m hm1 hm2
        · intro q hq r hr h
          rcases List.mem_cons.1 hq with rfl | hq <;> rcases List.mem_cons.1 hr with rfl | hr
          · rfl
          · rcases h with h | h
            · have := hb1 r hr; have h : w.heap.size = r.b := h; omega
            · exact absurd h.symm (hi4 r hr)
          · rcases h with h | h
            · have := hb1 q hq; have h : q.b = w.heap.size := h; omega
            · exact absurd h (hi4 q hq)
          · exact hm.dis q hq r hr h
        · have : remP ops (listed.setIfInBounds i true) (⟨i, d, t, w.heap.size⟩ :: Pre) = remP ops listed Pre := by
            unfold remP
            refine List.filter_congr fun j hj => ?_
            rw [hset, List.any_cons]
            by_cases hji : j = i
            · subst hji
              rw [if_pos rfl, hi2]; simp
            · rw [if_neg hji]
              have : (i == j) = false := by rw [beq_eq_false_iff_ne]; exact fun e => hji e.symm
              simp [this]
          rw [this]; exact hm.run
        · refine ⟨?_, ?_, ?_, hm.st.defers⟩
          · have h1 := hm.st.tmps.mono fun _ _ => VR2_gr hgr
            simp only [Act.put, Array.toList_setIfInBounds]
            refine All2_setR h1 d fun v hv => ?_
            rw [List.getD, hv] at htop
            have htop : v = .top := htop
            subst htop
            exact trivial
          · have h1 := hnw.HR hm.st.heap hm.st.base
            refine ⟨h1.len, h1.blk, fun k b e hb he hr => ⟨fun h => ?_, (h1.own k b e hb he hr).2⟩, h1.sep, h1.frz⟩
            rcases hbp _ h with h | h
            · exact (h1.own k b e hb he hr).1 h
            · have := (hm.st.heap.own k b e hb he hr).2
              omega
          · intro k hk
            rcases hbp k hk with h | h
            · have := hm.st.base k h; omega
            · omega
        · exact hm.gr.trans (hgr.mono fun k h => .inl h)
        · intro j o' d' t' hl' hcj
          by_cases hji : j = i
          · subst hji
            exact hm.top j o' d' t' hl' (.inl hi2)
          · refine hm.top j o' d' t' hl' ?_
            rcases hcj with h | ⟨q, hq, e⟩
            · rw [hset, if_neg hji] at h; exact .inl h
            · rcases List.mem_cons.1 hq with rfl | hq
              · exact absurd e.symm hji
              · exact .inr ⟨q, hq, e⟩
      | false =>
        obtain ⟨Pre', ts', H', g', hm', hn⟩ := flush_all hwvo hwro (fun k => (predsL ops i).contains k) Pre.length Pre ts H g (List.length_filter_le ..) hm fun p hp hpc k hk hkp => by
          obtain ⟨hps, _⟩ := hm.lst p hp
          obtain ⟨⟨o', hL'⟩, _⟩ := hm.pre p hp
          rcases hpr k p.i hkp hps with h | h | ⟨_, h⟩
          · rw [ahead_none hL'.preds] at h; cases h
          · exact .inl ⟨_, _, by simp, by simp [hps], h⟩
          · have h := all_range h hi1
            have hpc : (predsL ops i).contains p.i = true := hpc
            rw [hpc] at h
            have h : aheadOf ops k i = true := by simpa using h
            obtain ⟨r1, r2⟩ := remP_mem.1 hk
            rcases r2 with r2 | ⟨q, hq, e⟩
            · rw [hdone k r1 h] at r2; cases r2
            · exact .inr ⟨q, hq, e, by subst e; exact hdir q hq h⟩
        have hin : i ∈ remP ops listed Pre' := remP_mem.2 ⟨hi1, .inl hi2⟩
        obtain ⟨l1, l2, hrem⟩ := List.append_of_mem hin
        have hsort := remP_sorted (ops := ops) listed Pre'
        have hsort2 := hsort
        rw [hrem] at hsort2
        rw [hrem, List.pairwise_append] at hsort
        have hrun := hm'.run
        rw [hrem] at hrun
        have hgb : GlobOk E (BP B0 Pre') F w := (hG.gr hm'.gr).mono fun k h => .inl h
        have h2 := front hoi l1 ts' H' (fun k hk => by
          have hki := hsort.2.2 k hk i (by simp)
          have hkr : k ∈ remP ops listed Pre' := by rw [hrem]; simp [hk]
          obtain ⟨r1, r2⟩ := remP_mem.1 hkr
          refine ⟨ops[k], by simp [r1], ?_⟩
          rcases hpr k i hki hi1 with h | h | ⟨h, _⟩
          · exfalso
            rcases r2 with r2 | ⟨q, hq, e⟩
            · rw [hdone k r1 h] at r2; cases r2
            · have h1 := (hn q hq).2
              have h2 := hdir q (hn q hq).1 (by rw [e]; exact h)
              rw [h2] at h1; cases h1
          · exact h
          · rw [hlt] at h; cases h) hm'.rok hm'.vok (fun _ y _ => by rw [← hm'.st.heap.len]; exact VR2_bnd (opnd_ok hm'.st hgb y)) hrun
        refine opsK_one hE hfi hcall (hinl _) h2 hm'.st hgb fun ts2 H2 a2 w2 F2 g2 k1 k2 k3 k4 k5 k6 => ?_
        have hi4 : ∀ q ∈ Pre', q.i ≠ i := by
          intro q hq e
          have := (hm'.lst q hq).2
          rw [e, hi2] at this; cases this
        refine ih _ Pre' ts2 H2 a2 w2 F2 g2 hsz hfuel hclosed ⟨?_, ?_, ?_, hm'.dis, ?_, k2, hm'.gr.trans (k4.mono fun k h => .inl h), ?_, ?_, ?_⟩
        · intro q hq
          obtain ⟨⟨o', hL'⟩, q2, ⟨zs', q3, q4⟩, q5, q6⟩ := hm'.pre q hq
          refine ⟨⟨o', hL'⟩, fun v hv => q2 v ?_, ⟨zs', by rw [k4.below.block _ (.inr ⟨q, hq, rfl⟩)]; exact q3, q4⟩, fun o ho => (k4.new _ _ ho).elim (q5 o) fun h => h (.inr ⟨q, hq, rfl⟩), q6⟩
          rw [← (k5 q.d fun o ho hd => hi4 q hq (hL'.only i o ho hd).symm).2]; exact hv
        · intro q hq
          exact ⟨(hm'.lst q hq).1, by rw [hset]; split; rfl; exact (hm'.lst q hq).2⟩
        · intro q hq m hm1 hm2
          by_cases hmi : m = i
          · subst hmi
            have := (hn q hq).2
            simp only [List.contains_iff_mem, decide_eq_false_iff_not, ← Bool.not_eq_true] at this
            exact this hm2
          · rw [getD_set (by omega), if_neg hmi] at hm1
            exact hm'.fre q hq m hm1 hm2
        · have : remP ops (listed.setIfInBounds i true) Pre' = l1 ++ l2 := by
            rw [← filter_split hsort2, ← hrem]
            unfold remP
            rw [List.filter_filter]
            refine List.filter_congr fun j hj => ?_
            rw [hset]
            by_cases hji : j = i
            · subst hji
              have : (Pre'.any fun p => p.i == j) = false := by
                rw [List.any_eq_false]
                intro q hq e
                exact hi4 q hq (eq_of_beq e)
              rw [if_pos rfl, this]; simp
            · rw [if_neg hji]; simp [hji]
          rw [this]; exact k1
        · intro s hp
          by_cases hds : ops[i].dst = some s
          · obtain ⟨b, e1, e2⟩ := hwro i _ hoi s hds hp
            obtain ⟨σ, rfl, hσ⟩ := k6 _ hoi (by rw [e1]; intro e; cases e)
            exact hm'.rok.put (E := E) (hwro i _ hoi) hσ s hp
          · rw [(k5 s fun o ho hd => by rw [hoi] at ho; cases ho; exact hds hd).1]
            exact hm'.rok s hp
        · rintro ⟨s, id⟩ hp
          by_cases hds : ops[i].dst = some s
          · rcases hwvo i _ hoi s hds with hn | ⟨b, e1, e2⟩
            · exact absurd hp (hn id)
            · obtain ⟨σ, rfl, hσ⟩ := k6 _ hoi (by rw [e1]; intro e; cases e)
              exact hm'.vok.put (E := E) (hwvo i _ hoi) hσ (s, id) hp
          · show okB id (ts2.getD s .top) = true
            rw [(k5 s fun o ho hd => by rw [hoi] at ho; cases ho; exact hds hd).1]
            exact hm'.vok (s, id) hp
        · intro j o' d' t' hl' hcj
          have hji : j ≠ i := by
            rintro rfl
            rcases hcj with h | ⟨q, hq, e⟩
            · rw [hset, if_pos rfl] at h; cases h
            · exact hi4 q hq e
          rw [(k5 d' fun o ho hd => hji (hl'.only i o ho hd).symm).1]
          refine hm'.top j o' d' t' hl' (hcj.imp (fun h => ?_) id)
          rw [hset, if_neg hji] at h; exact h
end
end Go.Proofs.YtmojilihllhadaaGreatDoor.Ev
