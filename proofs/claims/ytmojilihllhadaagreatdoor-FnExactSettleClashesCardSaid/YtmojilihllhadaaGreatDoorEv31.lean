/- The evaluator: Ev19, Ev23, Ev25, Ev26, Ev27, Ev28, Ev29, Ev30, Ev31. -/
import Derived.Test.YtmojilihllhadaaGreatDoorEv18
/- The walk of a function's body. -/
namespace Go.Proofs.YtmojilihllhadaaGreatDoor.Ev
open Go Go.RowKit
set_option linter.unusedVariables false
set_option linter.unusedSimpArgs false

section
variable {α : Type} {P : Program} {E : Env} {B : Nat → Prop} {F : Fz} {g : List GE} {w : World} {H : Hp}

theorem run_mapM {β : Type} (f : β → Sem Value) : ∀ (l : List β) (us : List Value), All2 (fun x u => (f x).run P w = .ok u w) l us → (l.mapM f).run P w = .ok us w
  | [], _, h => by cases h; rfl
  | x :: l, _, h => by
    cases h with
    | cons h1 h2 =>
      rw [List.mapM_cons]
      simp only [Sem.run_bind, h1, Result.andThen, run_mapM f l _ h2, Sem.run_pure]

theorem resList_ok (hE : ∀ t, TiOk P E t) {ts : List AV} {a : Act} (hs : St B F g w H ts a) : ∀ (rs : List ResultVar) (vs : List AV), resList E ts H rs = some vs →
    ∃ us, All2 (VR1 F w g) vs us ∧ All2 (fun (x : ResultVar) u => ((match x with | .tmp t => pure (a.tmps.getD t undef) | .cell ad t => do loadVar t (← asAddr (a.tmps.getD ad undef))) : Sem Value).run P w = .ok u w) rs us
  | [], vs, h => by cases h; exact ⟨[], .nil, .nil⟩
  | .tmp t :: r, vs, h => by
    simp only [resList] at h
    split at h
    · rename_i l hnt hl
      cases h
      obtain ⟨us, h1, h2⟩ := resList_ok hE hs r l hl
      have : VR2 F w g (ts.getD t .top) (a.tmps.getD t undef) := by
        cases ht : ts[t]? with
        | none => simp [List.getD, ht]; exact trivial
        | some v =>
          obtain ⟨u, hu, hv⟩ := hs.tmps.get t v ht
          have hu' : a.tmps[t]? = some u := by simpa using hu
          simp only [List.getD, ht, Option.getD_some, Array.getD_eq_getD_getElem?, hu']
          exact hv
      exact ⟨_ :: us, .cons (VR2_1 this fun cs e => by rw [e] at hnt; cases hnt) h1, .cons rfl h2⟩
    · cases h
  | .cell ad t :: r, vs, h => by
    simp only [resList] at h
    split at h
    · rename_i v l hsm hv hl
      cases h
      obtain ⟨us, h1, h2⟩ := resList_ok hE hs r l hl
      have hne : (E.ti t).size ≠ 1000000000 := by
        have : (E.ti t).size < 1000000000 := Nat.le_of_ble_eq_true hsm
        omega
      have hp : ∃ y, ts[ad]? = some y := by
        cases ht : ts[ad]? with
        | none => simp [List.getD, ht, loadP] at hv
        | some y => exact ⟨y, rfl⟩
      obtain ⟨y, hy⟩ := hp
      obtain ⟨u, hu, hyu⟩ := hs.tmps.get ad y hy
      have hu' : a.tmps[ad]? = some u := by simpa using hu
      simp only [List.getD, hy, Option.getD_some] at hv
      have hy0 : VR0 F w g y u := by cases y <;> first | exact hyu | (simp [loadP] at hv)
      obtain ⟨b, off, cs, hue, hl', hc, m1, m2⟩ := loadP_ok hv hy0 hs.heap
      obtain ⟨i, z, e1, e2, e3, e4, e5, e6⟩ := (hE t).info hne
      obtain ⟨q, hr, hq⟩ := loadVar_ok e1 (by rw [e2, hl']) e4 hc m1 m2
      refine ⟨q :: us, .cons hq h1, .cons ?_ h2⟩
      show (do loadVar t (← asAddr (a.tmps.getD ad undef)) : Sem Value).run P w = _
      rw [Array.getD_eq_getD_getElem?, hu', Option.getD_some, hue]
      simp only [asAddr, Sem.run_bind, Sem.run_pure, Result.andThen]
      exact hr
    · cases h

theorem results_ok (hE : ∀ t, TiOk P E t) {ts : List AV} {a : Act} (hs : St B F g w H ts a) {fn : Func} {vs : List AV} (h : resList E ts H fn.results.toList = some vs) :
    ∃ v, (results fn a.tmps).run P w = .ok v w ∧ VR2 F w g (one vs) v := by
  obtain ⟨us, h1, h2⟩ := resList_ok hE hs _ _ h
  have hm := run_mapM (P := P) (w := w) _ _ _ h2
  have hlen := h1.length
  have hkey : ∃ v, (results fn a.tmps).run P w = .ok v w ∧ v = (if h : us.toArray.size = 1 then us.toArray[0] else .tuple us.toArray) := by
    refine ⟨_, ?_, rfl⟩
    unfold results
    rw [Array.mapM_eq_mapM_toList]
    simp only [map_eq_pure_bind, bind_assoc, pure_bind, Sem.run_bind]
    refine (congrArg (fun (r : Result (List Value)) => r.andThen fun l w => (pure (if h : l.toArray.size = 1 then l.toArray[0] else .tuple l.toArray) : Sem Value).run P w) hm).trans ?_
    rfl
  obtain ⟨v, hv, rfl⟩ := hkey
  refine ⟨_, hv, ?_⟩
  cases h1 with
  | nil => exact ⟨_, rfl, .nil⟩
  | cons p q =>
    cases q with
    | nil => simpa [one] using VR1_2 p
    | cons p' q' =>
      exact ⟨_, by simp, .cons p (.cons p' q')⟩

/-- From here on a walk that ends so. -/
def Runs (P : Program) (f : FuncId) (todo : List Item) (a : Act) (w : World) (R : Ending → World → Prop) : Prop :=
  ∀ (b : Frame) (cs : List Frame), b.fn = f → b.kind = .normal → ∃ e w' fr, R e w' ∧ Comes P (lone (b.at a todo) cs w) (lone fr cs w') e ∧ fr.fn = f ∧ fr.leaving P w' e

theorem Runs.step {f : FuncId} {todo todo' : List Item} {a a' : Act} {w w' : World} {R : Ending → World → Prop}
    (h : ∀ (b : Frame) (cs : List Frame), b.kind = .normal → step P (lone (b.at a todo) cs w) = .next (lone (b.at a' todo') cs w')) (k : Runs P f todo' a' w' R) : Runs P f todo a w R := by
  intro b cs hb hk
  obtain ⟨e, w'', fr, h1, h2, h3, h4⟩ := k b cs hb hk
  exact ⟨e, w'', fr, h1, Comes.of_steps (.one (h b cs hk)) h2, h3, h4⟩

theorem Runs.region {f : FuncId} {c : Code} {k : List Item} {a : Act} {w : World} {R : Ending → World → Prop} {Post : Act → World → Prop}
    (h : c.wp P (fun e a w => e = .normal ∧ Post a w) a w) (hk : ∀ a' w', Post a' w' → Runs P f k a' w' R) : Runs P f (.code c :: k) a w R := by
  intro b cs hb hkd
  obtain ⟨e, a', w', ⟨he, hp⟩, harr⟩ := h b k cs
  subst he
  obtain ⟨e', w'', fr, h1, h2, h3, h4⟩ := hk a' w' hp b cs hb hkd
  exact ⟨e', w'', fr, h1, Comes.of_steps harr h2, h3, h4⟩

theorem Runs.calls {f : FuncId} {fn : Func} {c : Code} {args : Array Value} {w : World} {R : Ending → World → Prop} (hf : P.funcs[f]? = some fn) (hb : fn.body = some c)
    (h : Runs P f [.code c] { tmps := args ++ Array.replicate (fn.ntmps - args.size) undef, defers := [] } w R) : Calls P f args w R := by
  intro cs
  let b : Frame := { (default : Frame) with fn := f, kind := .normal }
  have henter : Frame.enter P f args .normal = b.at { tmps := args ++ Array.replicate (fn.ntmps - args.size) undef, defers := [] } [.code c] := by
    simp [Frame.enter, Frame.at, hf, hb, b]
  rw [henter]
  exact h b cs rfl rfl
end
end Go.Proofs.YtmojilihllhadaaGreatDoor.Ev

/- What is done to slots at a cut. -/
namespace Go.Proofs.YtmojilihllhadaaGreatDoor.Ev
open Go Go.RowKit
set_option linter.unusedVariables false
set_option linter.unusedSimpArgs false

section
variable {P : Program} {E : Env} {B : Nat → Prop} {F : Fz} {g : List GE} {w : World} {H : Hp}

theorem goCut_ok {α : Type} {goto : List Item → List AV → Hp → Option α} {live : List Nat} {as : List (Nat × Option Nat × Act1)} {todo : List Item} {ts : List AV} {a : Act} {x : α}
    {m : Nat} (h : goCut goto m live as todo ts H = some x) (hs : St B F g w H ts a) :
    ∃ ts' H' F' g', goto todo ts' H' = some x ∧ St B F' g' w H' ts' a ∧ Gr B F [] w F' [] w ∧ (m ≤ g.length → ∀ i e, i < m → g[i]? = some e → g'[i]? = some e) := by
  unfold goCut at h
  split at h
  · rename_i ts1 H1 hact
    obtain ⟨F1, g1, h1, h2⟩ := acts_ok as ts ts1 H H1 F g hact hs
    refine ⟨_, _, F1, _, h, renumber_ok h2 _ live _, ⟨h1.up, h1.new, h1.cell, fun _ _ h => h, h1.below⟩, fun hm i e hi he => ?_⟩
    have he1 := h1.ext i e he
    have hg1 : m ≤ g1.length := by
      rcases Nat.eq_zero_or_pos m with rfl | hpos
      · exact Nat.zero_le _
      · have hl : g[m - 1]? = some (g[m - 1]'(by omega)) := List.getElem?_eq_getElem (by omega)
        have := idx_lt (h1.ext _ _ hl)
        omega
    rw [reG_first H1 m _ hg1 i hi]; exact he1
  · cases h
end
end Go.Proofs.YtmojilihllhadaaGreatDoor.Ev

/- What an operation yields does not hang on what comes behind it. -/
namespace Go.Proofs.YtmojilihllhadaaGreatDoor.Ev
open Go Go.RowKit
set_option linter.unusedVariables false
set_option linter.unusedSimpArgs false

section
variable {α β : Type} {E : Env} {H : Hp}

theorem cond_nat {b : Bool} {x y : Option α} {f : α → Option β} : (cond b x y).bind f = cond b (x.bind f) (y.bind f) := by cases b <;> rfl

theorem intOp_nat {op : BinOp} {k : IntKind} {a b : Int} {K : AV → Option α} {f : α → Option β} : (intOp op k a b K).bind f = intOp op k a b (fun v => (K v).bind f) := by
  cases op <;> simp only [intOp, cond_nat, Option.bind_none]
theorem strOp_nat {op : BinOp} {a b : ByteArray} {K : AV → Option α} {f : α → Option β} : (strOp op a b K).bind f = strOp op a b (fun v => (K v).bind f) := by
  cases op <;> simp only [strOp, cond_nat, Option.bind_none]
theorem binOpK_nat {op : BinOp} {t : TypeId} {x y : AV} {K : AV → Option α} {f : α → Option β} : (binOpK E op t x y K).bind f = binOpK E op t x y (fun v => (K v).bind f) := by
  unfold binOpK
  split
  · split
    · simp only [cond_nat, Option.bind_none]
    · simp only [cond_nat, Option.bind_none]
    · split
      · exact intOp_nat
      · rfl
  · exact strOp_nat
  · split <;> rfl
  · split
    · split <;> rfl
    · split <;> rfl
    · rfl
  · rfl
theorem boundsK_nat {n : Nat} {lo hi : Option AV} {K : Nat → Nat → Option α} {f : α → Option β} : (boundsK n lo hi K).bind f = boundsK n lo hi (fun a b => (K a b).bind f) := by
  unfold boundsK
  split
  · split
    · rfl
    · simp only [cond_nat, Option.bind_none]
    · rfl
  · simp only [cond_nat, Option.bind_none]
    congr 1
    split
    · rfl
    · simp only [cond_nat, Option.bind_none]
    · rfl
  · rfl
theorem sliceK_nat {sz : Nat} {x : AV} {lo hi mx : Option AV} {K : AV → Option α} {f : α → Option β} : (sliceK sz x lo hi mx K).bind f = sliceK sz x lo hi mx (fun v => (K v).bind f) := by
  unfold sliceK
  split
  · split
    · split <;> rfl
    · rfl
  · rfl
  · split
    · split
      · exact boundsK_nat
      · rfl
    · exact boundsK_nat
    · split
      · exact boundsK_nat
      · rfl
    · split
      · exact boundsK_nat
      · rfl
    · rfl
theorem idxK_nat {sz : Nat} {x : AV} {i : Int} {K : AV → Option α} {f : α → Option β} : (idxK sz x i K).bind f = idxK sz x i (fun v => (K v).bind f) := by
  unfold idxK
  split <;> first
    | rfl
    | (split
       · simp only [cond_nat, Option.bind_none]
       · rfl)
theorem idxA_nat {n sz : Nat} {x : AV} {i : Int} {K : AV → Option α} {f : α → Option β} : (idxA n sz x i K).bind f = idxA n sz x i (fun v => (K v).bind f) := by
  unfold idxA
  split
  · split
    · simp only [cond_nat, Option.bind_none]
    · rfl
  · rfl
theorem arrK_nat {sz : Nat} {t : Ty} {n : Nat} {cs : List AV} {K : AV → Hp → Option α} {f : α → Option β} : (arrK sz t n cs H K).bind f = arrK sz t n cs H (fun v H => (K v H).bind f) := by
  unfold arrK
  split <;> rfl
theorem convertK_nat {s d : TypeId} {x : AV} {K : AV → Hp → Option α} {f : α → Option β} : (convertK E s d x H K).bind f = convertK E s d x H (fun v H => (K v H).bind f) := by
  unfold convertK
  split
  · rfl
  · rfl
  · split <;> rfl
  · rfl

theorem threeK_nat {x mx : AV} {lo hi : Option AV} {K : AV → Option α} {f : α → Option β} : (threeK x lo hi mx K).bind f = threeK x lo hi mx (fun v => (K v).bind f) := by
  unfold threeK
  split
  · simp only [cond_nat, Option.bind_none]
  · simp only [cond_nat, Option.bind_none]
  · rfl
theorem appendK_nat {t : Ty} {s x : AV} {K : AV → Hp → Option α} {f : α → Option β} : (appendK t s x H K).bind f = appendK t s x H (fun v H => (K v H).bind f) := by
  unfold appendK
  split
  · rfl
  · split
    · simp only [cond_nat, Option.bind_none]
    · split
      · split
        · simp only [cond_nat, Option.bind_none]
        · rfl
      · rfl
    · split
      · split
        · simp only [cond_nat, Option.bind_none]
        · rfl
      · rfl
    · rfl
theorem appendL_nat {t : Ty} {s : AV} {xs : List t.den} {K : AV → Hp → Option α} {f : α → Option β} : (appendL t s xs H K).bind f = appendL t s xs H (fun v H => (K v H).bind f) := by
  unfold appendL
  split
  · simp only [cond_nat, Option.bind_none]
  · split
    · split
      · simp only [cond_nat, Option.bind_none]
      · rfl
    · rfl
  · split
    · split
      · simp only [cond_nat, Option.bind_none]
      · rfl
    · rfl
  · rfl
theorem ustrK_nat {pt : TypeId} {p : AV} {n : Int} {K : AV → Hp → Option α} {f : α → Option β} : (ustrK E pt p n H K).bind f = ustrK E pt p n H (fun v H => (K v H).bind f) := by
  unfold ustrK
  split
  · split
    · split
      · simp only [cond_nat, Option.bind_none]
      · split
        · split
          · simp only [cond_nat, Option.bind_none]
          · rfl
        · rfl
      · rfl
    · rfl
  · rfl
theorem clearK_nat {t : Ty} {x : AV} {K : AV → Hp → Option α} {f : α → Option β} : (clearK t x H K).bind f = clearK t x H (fun v H => (K v H).bind f) := by
  unfold clearK
  split
  · rfl
  · split
    · split <;> rfl
    · rfl
  · split
    · split <;> rfl
    · rfl
  · rfl
theorem minMaxK_nat {mx : Bool} {vs : List AV} {K : AV → Option α} {f : α → Option β} : (minMaxK mx vs K).bind f = minMaxK mx vs (fun v => (K v).bind f) := by
  unfold minMaxK
  split
  · split <;> rfl
  · rfl
theorem builtinK_nat {b : Builtin} {as : Array TypeId} {vs : List AV} {K : AV → Hp → Option α} {f : α → Option β} : (builtinK E b as vs H K).bind f = builtinK E b as vs H (fun v H => (K v H).bind f) := by
  unfold builtinK
  split
  · split
    · split
      · split
        · split <;> rfl
        · split <;> rfl
        · rfl
      · rfl
    · rfl
  · split
    · split
      · exact appendK_nat
      · split
        · exact appendL_nat
        · rfl
      · rfl
    · rfl
  · split
    · split
      · exact clearK_nat
      · rfl
    · rfl
  · unfold sliceDataK
    split
    · rfl
    · simp only [cond_nat, Option.bind_none]
    · rfl
  · split
    · exact ustrK_nat
    · rfl
  · exact minMaxK_nat
  · exact minMaxK_nat
  · rfl
theorem opK_nat {o : Op} (hn : nilOp o = false) {ρ : Operand → AV} {K : AV → Hp → Option α} {f : α → Option β} : (opK E o ρ H K).bind f = opK E o ρ H (fun v H => (K v H).bind f) := by
  cases o with
  | pick c a b =>
    simp only [opK]
    split
    · simp only [cond_nat]
    · rfl
  | binOp op t x y yt =>
    simp only [opK]
    split
    · cases hn
    · exact binOpK_nat
  | convert s d x => simp only [opK]; exact convertK_nat
  | slice t x lo hi mx =>
    simp only [opK]
    split
    · split
      · exact sliceK_nat
      · exact sliceK_nat
      · exact threeK_nat
    · split
      · exact boundsK_nat
      · rfl
    · rfl
  | indexAddr t x i =>
    simp only [opK]
    split
    · exact idxK_nat
    · exact idxA_nat
    · rfl
  | alloc t =>
    simp only [opK]
    split
    · split
      · exact arrK_nat
      · rfl
    · split <;> rfl
  | box t x =>
    simp only [opK]
    split
    · split
      · exact arrK_nat
      · rfl
    · split <;> rfl
  | index t x i =>
    simp only [opK]
    split
    · simp only [cond_nat, Option.bind_none]
    · split
      · simp only [cond_nat, Option.bind_none]
      · split
        · simp only [cond_nat, Option.bind_none]
        · rfl
    · rfl
  | makeSlice t l c =>
    simp only [opK]
    split
    · simp only [cond_nat, Option.bind_none]
    · rfl
  | makeMap t r =>
    cases r with
    | none => simp only [opK]; split <;> rfl
    | some r => rfl
  | lookup t x i c =>
    cases c with
    | false => simp only [opK]; (repeat' split) <;> rfl
    | true => rfl
  | _ => simp only [opK] <;> (repeat' split) <;> rfl
end
end Go.Proofs.YtmojilihllhadaaGreatDoor.Ev

/- One operation, calls too, told without what comes behind it. -/
namespace Go.Proofs.YtmojilihllhadaaGreatDoor.Ev
open Go Go.RowKit
set_option linter.unusedVariables false
set_option linter.unusedSimpArgs false

section
variable {α : Type} {P : Program} {E : Env} {B : Nat → Prop} {F : Fz} {g : List GE} {w : World} {H : Hp}

noncomputable def opStep (E : Env) (call : (g : FuncId) → List AV → Hp → Option (Ret E g)) (o : Oper) (ts : List AV) (H : Hp) : Option (AV × Hp) :=
  match o.op with
  | .call c => match c.callee with
    | .builtin b => builtinK E b c.argTypes (c.args.toList.map (opnd E ts)) H fun v H => some (v, H)
    | .value f => match opnd E ts f with
      | .fn k caps => match E.fi k with
        | some gi => match gi.inl with
          | true => none
          | false => match gi.take with
            | false => match caps, argsOk H (c.args.toList.map (opnd E ts)) && (backOf E k).isEmpty with
              | [], true => (call k ((c.args.toList.map (opnd E ts)).map (lendArg H)) []).bind fun x =>
                some (one (retVals gi.own (rtsOf E k) (rFst (rtsOf E k) (backOf E k) x) H.length).1, afterCall gi.own (rtsOf E k) (c.args.toList.map (opnd E ts)) H ++ (retVals gi.own (rtsOf E k) (rFst (rtsOf E k) (backOf E k) x) H.length).2)
              | _, _ => none
            | true => match caps, takeJob gi.ptr (backOf E k) (c.args.toList.map (opnd E ts)) H with
              | [], some (av, Hc, H', π) => (call k av Hc).bind fun x => some (takeBack gi.own (rtsOf E k) (backOf E k) x H' π)
              | _, _ => none
        | none => match E.xt k, caps with
          | some x, [] => extK x (c.args.toList.map (opnd E ts)) H fun v H => some (v, H)
          | _, _ => none
      | _ => none
    | _ => none
  | op => opK E op (opnd E ts) H fun v H => some (v, H)

/-- a walk with no callee taken in, told by its steps -/
theorem opsK_step {call : (g : FuncId) → List AV → Hp → Option (Ret E g)} {inl : FI → List AV → Hp → Fin α → Option α} {ops : Array Oper} {i : Nat} {r : List Nat} {ts : List AV} {K : List AV → Hp → Option α} {o : Oper} (ho : ops[i]? = some o) (hn : nilOp o.op = false) (hI : mayInl E o.op = false) :
    opsK E call inl ops (i :: r) ts H K = guardOf ops ts o
      ((opStep E call o ts H).bind fun p => opsK E call inl ops r (put ts o.dst p.1) p.2 K)
      (opsK E call inl ops r (put ts o.dst (.raw undef)) H K) := by
  simp only [opsK, ho, guardS_eq]
  congr 1
  unfold opStep
  cases hop : o.op with
  | call c =>
    simp only []
    cases hc : c.callee with
    | builtin b => simp only []; rw [builtinK_nat]; rfl
    | value f =>
      simp only []
      cases hf : opnd E ts f with
      | fn k caps =>
        simp only []
        cases hg : E.fi k with
        | none =>
          simp only []
          cases E.xt k with
          | none => rfl
          | some x =>
            cases caps with
            | nil => simp only []; rw [extK_nat]; rfl
            | cons a b => rfl
        | some gi =>
          cases hi : gi.inl with
          | true =>
            exfalso
            rw [hop] at hI
            simp only [mayInl, hc] at hI
            cases f with
            | func g' =>
              simp only [opnd] at hf
              cases hf
              simp only [hg, hi] at hI
              cases hI
            | _ => cases hI
          | false =>
            cases caps with
            | nil =>
              simp only [hi]
              cases gi.take with
              | false =>
                simp only []
                cases argsOk H (c.args.toList.map (opnd E ts)) && (backOf E k).isEmpty with
                | true => simp only []; rw [Option.bind_assoc]; rfl
                | false => rfl
              | true =>
                simp only []
                cases takeJob gi.ptr (backOf E k) (c.args.toList.map (opnd E ts)) H with
                | some p => obtain ⟨av, Hc, H', π⟩ := p; simp only []; rw [Option.bind_assoc]; rfl
                | none => rfl
            | cons a b => simp only [hi]; cases gi.take <;> rfl
      | _ => rfl
    | invoke a b => rfl
  | _ => simp only []; rw [opK_nat (by rw [hop] at hn; exact hn)]; rfl

end
end Go.Proofs.YtmojilihllhadaaGreatDoor.Ev

/- Operations that only look: what their order may be. -/
namespace Go.Proofs.YtmojilihllhadaaGreatDoor.Ev
open Go Go.RowKit
set_option linter.unusedVariables false
set_option linter.unusedSimpArgs false

section
variable {α : Type} {P : Program} {E : Env} {B : Nat → Prop} {F : Fz} {g : List GE} {w : World} {H : Hp}

theorem collapse_noSl {H H2 : Hp} : (t : Ty) → (cs : List AV) → t.hasSl = false → collapse H t cs = collapse H2 t cs
  | .int k, cs, _ => by cases cs with
    | nil => rfl
    | cons v r => cases v <;> rfl
  | .bool, cs, _ => by cases cs with
    | nil => rfl
    | cons v r => cases v <;> rfl
  | .str, cs, _ => by cases cs with
    | nil => rfl
    | cons v r => cases v <;> rfl
  | .unit, cs, _ => by cases cs <;> rfl
  | .sl t, cs, h => by cases h
  | .st t, cs, h => by simp only [collapse]; exact collapse_noSl t cs h
  | .pair a b, cs, h => by
    simp only [Ty.hasSl, Bool.or_eq_false_iff] at h
    simp only [collapse]
    rw [collapse_noSl (H2 := H2) a cs h.1]
    split
    · rw [collapse_noSl (H2 := H2) b _ h.2]
    · rfl

theorem asTy_noSl {H H2 : Hp} {t : Ty} {v : AV} (h : t.hasSl = false) : asTy H t v = asTy H2 t v := by
  unfold asTy
  rw [collapse_noSl (H2 := H2) t _ h]
theorem partsTy_noSl {H H2 : Hp} {t : Ty} {ρ : Operand → AV} (h : t.hasSl = false) : ∀ l : List (Nat × Operand), partsTy H t ρ l = partsTy H2 t ρ l
  | [] => rfl
  | (i, x) :: r => by
    simp only [partsTy]
    rw [asTy_noSl (H2 := H2) h, partsTy_noSl (H2 := H2) h r]

theorem ownIds_noSl {H : Hp} : (t : Ty) → (cs : List AV) → (x : t.den) → (r : List AV) → t.hasSl = false → collapse H t cs = some (x, r) → ownIds cs = ownIds r
  | .int k, cs, x, r, _, h => by
    cases cs with
    | nil => cases h
    | cons v s =>
      cases v with
      | int k' y =>
        simp only [collapse] at h
        split at h
        · cases h; rfl
        · cases h
      | _ => cases h
  | .bool, cs, x, r, _, h => by
    cases cs with
    | nil => cases h
    | cons v s => cases v <;> first | (cases h; done) | (cases h; rfl)
  | .str, cs, x, r, _, h => by
    cases cs with
    | nil => cases h
    | cons v s => cases v <;> first | (cases h; done) | (cases h; rfl)
  | .unit, cs, x, r, _, h => by cases cs <;> (cases h; rfl)
  | .sl t, cs, x, r, h', h => by cases h'
  | .st t, cs, x, r, h', h => by simp only [collapse] at h; exact ownIds_noSl t cs x r h' h
  | .pair a b, cs, x, r, h', h => by
    simp only [Ty.hasSl, Bool.or_eq_false_iff] at h'
    simp only [collapse] at h
    split at h
    · rename_i y r1 h1
      split at h
      · rename_i z r2 h2
        cases h
        rw [ownIds_noSl a cs y r1 h'.1 h1, ownIds_noSl b r1 z _ h'.2 h2]
      · cases h
    · cases h
theorem ownIds_asTy {H : Hp} {t : Ty} {v : AV} {x : t.den} (h' : t.hasSl = false) (h : asTy H t v = some x) : ownIds (cellsOf v) = [] := by
  unfold asTy at h
  split at h
  · rename_i y _ h2
    exact ownIds_noSl t _ y [] h' h2
  · cases h
theorem ownIds_parts {H : Hp} {t : Ty} {ρ : Operand → AV} (h' : t.hasSl = false) : ∀ (l : List (Nat × Operand)) (ps : List (Nat × t.den)), partsTy H t ρ l = some ps → ownIds (l.flatMap fun p => cellsOf (ρ p.2)) = []
  | [], _, _ => rfl
  | (i, x) :: r, ps, h => by
    simp only [partsTy] at h
    split at h
    · rename_i v hv
      split at h
      · rename_i l hl
        simp only [List.flatMap_cons, ownIds_append, ownIds_asTy h' hv, ownIds_parts h' r l hl, List.nil_append]
      · cases h
    · cases h

/-! #### operands -/
theorem fillCells_congr {flds : List (Nat × Nat × Bool)} {ρ ρ' : Operand → AV} : ∀ (l : List (Nat × Operand)) (cs : List AV), (∀ y ∈ l.map (·.2), ρ y = ρ' y) → fillCells flds ρ l cs = fillCells flds ρ' l cs
  | [], _, _ => rfl
  | (i, x) :: r, cs, h => by
    simp only [fillCells]
    rw [h x (by simp)]
    split
    · split
      · exact fillCells_congr r _ fun y hy => h y (by simp at hy ⊢; exact .inr hy)
      · rfl
    · rfl
theorem partsTy_congr {t : Ty} {ρ ρ' : Operand → AV} : ∀ (l : List (Nat × Operand)), (∀ y ∈ l.map (·.2), ρ y = ρ' y) → partsTy H t ρ l = partsTy H t ρ' l
  | [], _ => rfl
  | (i, x) :: r, h => by
    simp only [partsTy]
    rw [h x (by simp), partsTy_congr r fun y hy => h y (by simp at hy ⊢; exact .inr hy)]
theorem optmap_congr {ρ ρ' : Operand → AV} (o : Option Operand) (h : ∀ y, o = some y → ρ y = ρ' y) : o.map ρ = o.map ρ' := by
  cases o with
  | none => rfl
  | some y => simp [h y rfl]

theorem opK_congr {op : Op} {ρ ρ' : Operand → AV} {K : AV → Hp → Option α} (h : ∀ y ∈ op.operands, ρ y = ρ' y) : opK E op ρ H K = opK E op ρ' H K := by
  cases op with
  | build t ps =>
    simp only [opK]
    have hc : ∀ (flds : List (Nat × Nat × Bool)) (cs : List AV), fillCells flds ρ ps.toList cs = fillCells flds ρ' ps.toList cs := fun flds cs => fillCells_congr ps.toList cs fun y hy => h y (by simpa [Op.operands] using hy)
    simp only [hc]
  | buildSlice t n ps =>
    have hp : ∀ y ∈ ps.toList.map (·.2), ρ y = ρ' y := fun y hy => h y (by simpa [Op.operands] using hy)
    have h2 : (ps.toList.flatMap fun p => cellsOf (ρ p.2)) = ps.toList.flatMap fun p => cellsOf (ρ' p.2) := by
      generalize ps.toList = l at hp
      induction l with
      | nil => rfl
      | cons q l ih => simp only [List.flatMap_cons, ih fun y hy => hp y (by simp at hy ⊢; exact .inr hy), hp q.2 (by simp)]
    simp only [opK, h2]
    split
    · rw [partsTy_congr ps.toList hp]
    · rfl
  | slice t x lo hi mx =>
    simp only [opK]
    rw [h x (by simp [Op.operands]), optmap_congr lo fun y hy => h y (by simp [Op.operands, hy]), optmap_congr hi fun y hy => h y (by simp [Op.operands, hy])]
    cases mx with
    | none => rfl
    | some m =>
      have hm := h m (by simp [Op.operands])
      cases m <;> simp only [hm]
  | makeFunc f first cap =>
    simp only [opK]
    have : cap.toList.map ρ = cap.toList.map ρ' := List.map_congr_left fun y hy => h y (by simp [Op.operands]; exact .inr (by simpa using hy))
    rw [this]
  | binOp op t x y yt =>
    have hx := h x (by simp [Op.operands])
    have hy := h y (by simp [Op.operands])
    simp only [opK]
    split
    · rw [hx]
    · rw [hx, hy]
  | makeMap t r => cases r <;> rfl
  | lookup t x i c =>
    cases c with
    | true => rfl
    | false =>
      simp only [opK]
      rw [h x (by simp [Op.operands]), h i (by simp [Op.operands])]
  | _ => first | rfl | (simp [Op.operands] at h; simp [opK, h])

theorem opnd_put {ts : List AV} {d : Option Tmp} {v : AV} {y : Operand} (h : ∀ t, d = some t → y ≠ .tmp t) : opnd E (put ts d v) y = opnd E ts y := by
  cases d with
  | none => rfl
  | some d =>
    cases y with
    | tmp t =>
      have : d ≠ t := fun e => h d rfl (e ▸ rfl)
      simp only [opnd, put, List.getD]
      rw [List.getElem?_set_ne this]
    | _ => rfl

theorem opStep_congr {call : (g : FuncId) → List AV → Hp → Option (Ret E g)} {o : Oper} {ts ts' : List AV} (h : ∀ y ∈ o.op.operands, opnd E ts y = opnd E ts' y) : opStep E call o ts H = opStep E call o ts' H := by
  unfold opStep
  cases ho : o.op with
  | call c =>
    rw [ho] at h
    have ha : c.args.toList.map (opnd E ts) = c.args.toList.map (opnd E ts') := List.map_congr_left fun y hy => h y (by simp only [Op.operands, Call.operands, Array.mem_append]; exact .inr (by simpa using hy))
    simp only []
    cases hc : c.callee with
    | builtin b => simp only [ha]
    | value f =>
      have hf : opnd E ts f = opnd E ts' f := h f (by simp [Op.operands, Call.operands, hc])
      simp only [ha, hf]
    | invoke a b => rfl
  | _ => simp only []; exact opK_congr (by rw [← ho]; exact h)
end
end Go.Proofs.YtmojilihllhadaaGreatDoor.Ev

/- What an operation of each kind does to the memory. -/
namespace Go.Proofs.YtmojilihllhadaaGreatDoor.Ev
open Go Go.RowKit
set_option linter.unusedVariables false
set_option linter.unusedSimpArgs false

section
variable {α : Type} {P : Program} {E : Env} {B : Nat → Prop} {F : Fz} {g : List GE} {w : World} {H : Hp}

theorem opK_kind0 {op : Op} {ρ : Operand → AV} (hk : kindOf E op = 0) (H H2 : Hp) (K : AV → Hp → Option α) (hc : ∀ c, op ≠ .call c) (hb : ∀ t n p, op ≠ .buildSlice t n p) : opK E op ρ H K = opK E op ρ H2 (fun v _ => K v H) := by
  cases op with
  | call c => exact absurd rfl (hc c)
  | buildSlice t n p => exact absurd rfl (hb t n p)
  | load | alloc | box | makeSlice | store => simp [kindOf] at hk
  | convert s d x =>
    simp only [kindOf] at hk
    simp only [opK, convertK]
    cases hs : (E.ti s).d with
    | slice e => rw [hs] at hk; cases hk
    | _ => first | rfl | (cases hd : (E.ti d).d <;> first | rfl | (cases ρ x <;> rfl))
  | slice t x lo hi mx =>
    simp only [kindOf] at hk
    split at hk
    · rename_i hd
      simp only [opK, hd]
    · simp only [opK]
      split
      · split
        · simp only [Option.map_none, Option.isSome_none]
          have hw : ∀ (H : Hp) (x : AV), widen H false x = x := fun H x => by unfold widen; split <;> first | rfl | (rename_i e; cases e)
          rw [hw, hw]
        · rfl
        · rfl
      · rfl
      · rfl
    · cases hk
  | binOp op t x y yt =>
    simp only [opK]
  | _ => first | rfl | (simp only [opK]; done) | (simp [kindOf] at hk)

theorem kind_binOp {a : BinOp} {b : TypeId} {c y : Operand} {d : TypeId} : kindOf E (.binOp a b c y d) = 0 ∨ kindOf E (.binOp a b c y d) = 3 := by
  unfold kindOf
  split <;> first | exact .inr rfl | exact .inl rfl | (rename_i e; cases e)

theorem kind0_nil {op : Op} (hk : kindOf E op = 0) : nilOp op = false := by
  cases op with
  | binOp a b c y d =>
    unfold nilOp
    split
    · rename_i e
      cases e
      simp [kindOf] at hk
    · rfl
  | _ => rfl

theorem opK_zero {op : Op} {ρ : Operand → AV} {σ : AV} {H' : Hp} (hk : kindOf E op = 0) (hc : ∀ c, op ≠ .call c) (h : opK E op ρ H (fun v H => some (v, H)) = some (σ, H')) :
    H' = H ∧ ∀ H2, opK E op ρ H2 (fun v H => some (v, H)) = some (σ, H2) := by
  by_cases hb : ∀ t n p, op ≠ .buildSlice t n p
  · have e : ∀ H2, opK E op ρ H2 (fun v H => some (v, H)) = some (σ, H2) := by
      intro H2
      rw [opK_kind0 hk H2 H _ hc hb]
      have := opK_nat (E := E) (o := op) (kind0_nil hk) (ρ := ρ) (H := H) (K := fun v H => some (v, H)) (f := fun p => some (p.1, H2))
      rw [h] at this
      exact this.symm
    have := e H
    rw [h] at this
    exact ⟨(Prod.mk.inj (Option.some.inj this)).2, e⟩
  · have ⟨t, n, p, e⟩ : ∃ t n p, op = .buildSlice t n p := Classical.byContradiction fun hh => hb fun t n p e => hh ⟨t, n, p, e⟩
    subst e
    simp only [opK] at h ⊢
    cases n with
    | zero => simp [kindOf] at hk
    | succ n =>
      simp only [kindOf] at hk
      cases hd : (E.ti t).d with
      | slice e =>
        simp only [hd] at h hk ⊢
        cases hs : (E.ti e).ty.hasSl with
        | true => rw [hs] at hk; cases hk
        | false =>
          split at h
          · rename_i ps hps hall
            have hids := ownIds_parts hs p.toList ps hps
            simp only [hids] at h
            cases h
            refine ⟨rfl, fun H2 => ?_⟩
            rw [partsTy_noSl (H2 := H) hs, hps, hall]
            simp only [hids]
            rfl
          · cases h
      | _ => simp only [hd] at h; cases h

theorem minMaxK_zero {mx : Bool} {vs : List AV} {σ : AV} {H' : Hp} (h : minMaxK mx vs (fun v => some (v, H)) = some (σ, H')) : H' = H ∧ ∀ H2 : Hp, minMaxK mx vs (fun v => some (v, H2)) = some (σ, H2) := by
  unfold minMaxK at h ⊢
  split at h
  · split at h
    · rename_i hk
      cases h
      refine ⟨rfl, fun H2 => ?_⟩
      rw [if_pos hk]
    · cases h
  · cases h

theorem sd_zero {as : Array TypeId} {vs : List AV} {σ : AV} {H' : Hp} (h : builtinK E .unsafeSliceData as vs H (fun v H => some (v, H)) = some (σ, H')) :
    H' = H ∧ ∀ H2 : Hp, builtinK E .unsafeSliceData as vs H2 (fun v H => some (v, H)) = some (σ, H2) := by
  rcases vs with _ | ⟨x, _ | ⟨y, t⟩⟩
  · cases h
  · have h : sliceDataK x H (fun v H => some (v, H)) = some (σ, H') := h
    have hg : ∀ H2 : Hp, builtinK E .unsafeSliceData as [x] H2 (fun v H => some (v, H)) = sliceDataK x H2 (fun v H => some (v, H)) := fun _ => rfl
    unfold sliceDataK at h
    split at h
    · cases h; exact ⟨rfl, fun H2 => rfl⟩
    · obtain ⟨hn, h⟩ := cond_some h
      cases h
      refine ⟨rfl, fun H2 => ?_⟩
      rw [hg]
      unfold sliceDataK
      simp only [hn, cond_true]
    · cases h
  · cases h
theorem libK_H {p : LibF} {args : List AV} {σ : AV} {H' : Hp} (h : libK p args (fun v => some (v, H)) = some (σ, H')) : H' = H ∧ ∀ H2 : Hp, libK p args (fun v => some (v, H2)) = some (σ, H2) := by
  have nat : ∀ H : Hp, libK p args (fun v => some (v, H)) = (libK p args some).bind fun v => some (v, H) := by
    intro H
    unfold libK
    split
    · rw [cond_bindX, cond_bindX]; rfl
    · split
      · rw [cond_bindX]; rfl
      · split
        · rw [cond_bindX]; rfl
        · rfl
    · rw [cond_bindX]; rfl
    · rfl
  rw [nat] at h
  obtain ⟨v, h1, h2⟩ := Option.bind_eq_some_iff.1 h
  cases h2
  exact ⟨rfl, fun H2 => by rw [nat, h1]; rfl⟩
theorem extK_plain {x : XT} {args : List AV} {σ : AV} {H' : Hp} (hx : x.plain = true) (h : extK x args H (fun v H => some (v, H)) = some (σ, H')) :
    H' = H ∧ ∀ H2 : Hp, extK x args H2 (fun v H => some (v, H)) = some (σ, H2) := by
  unfold extK at h ⊢
  split at h
  · cases h; exact ⟨rfl, fun _ => rfl⟩
  · cases h; exact ⟨rfl, fun _ => rfl⟩
  · cases h; exact ⟨rfl, fun _ => rfl⟩
  · cases hx
  · cases hx
  · exact libK_H h
  · cases hx
  · split at h
    · rename_i xs hxs
      obtain ⟨hc, h⟩ := cond_some h
      cases h
      exact ⟨rfl, fun H2 => by simp only [hc, cond_true]⟩
    · cases h
  · split at h
    · rename_i xs ys hxs hys
      obtain ⟨hc, h⟩ := cond_some h
      cases h
      exact ⟨rfl, fun H2 => by simp only [hc, cond_true]⟩
    · cases h
  · cases h
theorem opStep_zero {call : (g : FuncId) → List AV → Hp → Option (Ret E g)} {o : Oper} {ts : List AV} {σ : AV} {H' : Hp} (hk : kindOf E o.op = 0) (h : opStep E call o ts H = some (σ, H')) :
    H' = H ∧ ∀ H2, opStep E call o ts H2 = some (σ, H2) := by
  unfold opStep at h ⊢
  cases ho : o.op with
  | call c =>
    simp only [ho] at h hk ⊢
    cases hc : c.callee with
    | builtin b =>
      simp only [kindOf, hc] at h hk ⊢
      cases b with
      | min => simp only [builtinK] at h ⊢; exact minMaxK_zero h
      | max => simp only [builtinK] at h ⊢; exact minMaxK_zero h
      | unsafeSliceData => exact sd_zero h
      | len =>
        simp only [builtinK] at h ⊢
        split at h
        · rename_i x
          split at h
          · rename_i t ht
            split at h
            · rename_i n hn
              split at h
              · rename_i hd
                split at h
                · cases h
                  refine ⟨rfl, fun H2 => ?_⟩
                  simp_all
                · cases h
              · rename_i e hd
                split at h
                · cases h
                · cases h
                  refine ⟨rfl, fun H2 => ?_⟩
                  simp_all
              · cases h
            · cases h
          · cases h
        all_goals first | (cases h; done) | simp_all
      | _ => simp at hk
    | value f =>
      simp only [kindOf, hc] at hk
      split at hk
      all_goals first | (rename_i e; cases e; done) | (simp at hk; done) | skip
      rename_i g' e
      cases e
      split at hk
      · rename_i gi hgi
        split at hk <;> simp at hk
      · rename_i hgi
        cases hx : E.xt g' with
        | none => rw [hx] at hk; cases hk
        | some x =>
          rw [hx] at hk
          cases hp : x.plain with
          | false => simp only [hp] at hk; cases hk
          | true =>
            have hfo : opnd E ts (.func g') = .fn g' [] := rfl
            simp only [hc, hfo, hgi, hx] at h ⊢
            exact extK_plain hp h
    | invoke a b => simp only [hc] at h; cases h
  | _ =>
    simp only [ho] at h hk ⊢
    exact opK_zero hk (fun c e => by cases e) h
end
end Go.Proofs.YtmojilihllhadaaGreatDoor.Ev

/- Operations that read, and operations that make new. -/
namespace Go.Proofs.YtmojilihllhadaaGreatDoor.Ev
open Go Go.RowKit
set_option linter.unusedVariables false
set_option linter.unusedSimpArgs false

section
variable {α : Type} {P : Program} {E : Env} {B : Nat → Prop} {F : Fz} {g : List GE} {w : World} {H H2 H3 : Hp}

def BLe (b b' : Blk) : Prop := b' = b ∨ ∃ t l c c', b = .arr t l c ∧ b' = .arr t l c'
structure HLe (H H2 : Hp) : Prop where
  len : H.length ≤ H2.length
  get : ∀ (i : Nat) b, H[i]? = some b → ∃ b', H2[i]? = some b' ∧ BLe b b'
theorem BLe.trans {a b c : Blk} (h : BLe a b) (k : BLe b c) : BLe a c := by
  rcases h with rfl | ⟨t, l, c1, c2, rfl, rfl⟩
  · exact k
  · rcases k with rfl | ⟨t', l', c1', c2', h1, h2⟩
    · exact .inr ⟨t, l, c1, c2, rfl, rfl⟩
    · cases h1
      exact .inr ⟨t, l, c1, c2', rfl, h2⟩
theorem HLe.refl (H : Hp) : HLe H H := ⟨Nat.le_refl _, fun i b h => ⟨b, h, .inl rfl⟩⟩
theorem HLe.trans (h : HLe H H2) (k : HLe H2 H3) : HLe H H3 := ⟨Nat.le_trans h.len k.len, fun i b hb => by
  obtain ⟨b', h1, h2⟩ := h.get i b hb
  obtain ⟨b'', k1, k2⟩ := k.get i b' h1
  exact ⟨b'', k1, h2.trans k2⟩⟩
theorem HLe.app (H X : Hp) : HLe H (H ++ X) := ⟨by simp, fun i b h => ⟨b, by rw [List.getElem?_append_left (List.getElem?_eq_some_iff.1 h).1]; exact h, .inl rfl⟩⟩
theorem HLe.lend1 (H : Hp) (id : Nat) : HLe H (lend1 H id) := ⟨by simp [lend1_len], fun i b h => by
  unfold Ev.lend1
  rw [List.getElem?_modify]
  rw [h]
  by_cases hi : id = i
  · simp only [if_pos hi]
    refine ⟨_, rfl, ?_⟩
    cases b with
    | arr t l c => exact .inr ⟨t, l, c, true, rfl, rfl⟩
    | _ => exact .inl rfl
  · simp only [if_neg hi]
    exact ⟨_, rfl, .inl rfl⟩⟩
theorem HLe.lendAll : ∀ (ids : List Nat) (H : Hp), HLe H (lendAll H ids)
  | [], H => .refl H
  | i :: r, H => (HLe.lend1 H i).trans (HLe.lendAll r _)

theorem HLe.lt (h : HLe H H2) {i : Nat} (hi : i < H.length) : ∃ b b', H[i]? = some b ∧ H2[i]? = some b' ∧ BLe b b' := by
  obtain ⟨b, hb⟩ : ∃ b, H[i]? = some b := ⟨H[i], by simp [hi]⟩
  obtain ⟨b', k1, k2⟩ := h.get i b hb
  exact ⟨b, b', hb, k1, k2⟩

theorem loadP_eq (h : HLe H H2) {agg : Bool} {sz : Nat} {v : AV} (hi : ∀ id ∈ leafIds v, id < H.length) : loadP H agg sz v = loadP H2 agg sz v := by
  cases v with
  | ptr id i =>
    obtain ⟨b, b', h1, h2, h3⟩ := h.lt (hi id (by simp [leafIds]))
    simp only [loadP, h1, h2]
    rcases h3 with rfl | ⟨t, l, c1, c2, rfl, rfl⟩ <;> rfl
  | eptr id i j =>
    obtain ⟨b, b', h1, h2, h3⟩ := h.lt (hi id (by simp [leafIds]))
    simp only [loadP, h1, h2]
    rcases h3 with rfl | ⟨t, l, c1, c2, rfl, rfl⟩ <;> rfl
  | aptr id i j =>
    obtain ⟨b, b', h1, h2, h3⟩ := h.lt (hi id (by simp [leafIds]))
    simp only [loadP, h1, h2]
    rcases h3 with rfl | ⟨t, l, c1, c2, rfl, rfl⟩ <;> rfl
  | _ => rfl
theorem loadP_lt {agg : Bool} {sz : Nat} {v u : AV} (h : loadP H agg sz v = some u) : ∀ id ∈ leafIds v, id < H.length := by
  intro id hid
  cases v with
  | ptr id' i =>
    simp only [leafIds, List.mem_singleton] at hid
    subst hid
    simp only [loadP] at h
    split at h
    · rename_i hb; exact (List.getElem?_eq_some_iff.1 hb).1
    · cases h
  | eptr id' i j =>
    simp only [leafIds, List.mem_singleton] at hid
    subst hid
    simp only [loadP] at h
    split at h
    · rename_i hb; exact (List.getElem?_eq_some_iff.1 hb).1
    · cases h
  | aptr id' i j =>
    simp only [leafIds, List.mem_singleton] at hid
    subst hid
    simp only [loadP] at h
    split at h
    · rename_i hb; exact (List.getElem?_eq_some_iff.1 hb).1
    · cases h
  | all | own | slf | mp => simp [loadP] at h
  | _ => simp [leafIds] at hid

theorem isArr_eq (h : HLe H H2) {i : Nat} (hi : i < H.length) : isArr H i = isArr H2 i := by
  obtain ⟨b, b', h1, h2, h3⟩ := h.lt hi
  simp only [isArr, h1, h2]
  rcases h3 with rfl | ⟨t, l, c1, c2, rfl, rfl⟩ <;> rfl
theorem isArr_lt {i : Nat} (h : isArr H i = true) : i < H.length := by
  unfold isArr at h
  split at h
  · rename_i hb; exact (List.getElem?_eq_some_iff.1 hb).1
  · cases h
theorem argsOk_lt {args : List AV} (h : argsOk H args = true) : ∀ v ∈ args, ∀ id ∈ ownIds (cellsOf v), id < H.length := fun v hv id hid =>
  isArr_lt (List.all_eq_true.1 h id (List.mem_flatMap.2 ⟨v, hv, hid⟩))
theorem argsOk_eq (h : HLe H H2) {args : List AV} (hi : ∀ v ∈ args, ∀ id ∈ ownIds (cellsOf v), id < H.length) : argsOk H args = argsOk H2 args := by
  unfold argsOk
  generalize hl : (args.flatMap fun v => ownIds (cellsOf v)) = l
  have : ∀ id ∈ l, id < H.length := fun id hid => by
    rw [← hl] at hid
    obtain ⟨v, hv, hid⟩ := List.mem_flatMap.1 hid
    exact hi v hv id hid
  clear hl
  induction l with
  | nil => rfl
  | cons i l ih => simp only [List.all_cons, isArr_eq h (this i (by simp)), ih fun j hj => this j (by simp [hj])]
theorem lendV_eq (h : HLe H H2) {v : AV} (hi : ∀ id ∈ ownIds [v], id < H.length) : lendV H v = lendV H2 v := by
  cases v with
  | all id sz n =>
    obtain ⟨b, b', h1, h2, h3⟩ := h.lt (hi id (by simp [ownIds]))
    simp only [lendV, h1, h2]
    rcases h3 with rfl | ⟨t, l, c1, c2, rfl, rfl⟩ <;> rfl
  | own id sz off n =>
    obtain ⟨b, b', h1, h2, h3⟩ := h.lt (hi id (by simp [ownIds]))
    simp only [lendV, h1, h2]
    rcases h3 with rfl | ⟨t, l, c1, c2, rfl, rfl⟩ <;> rfl
  | _ => rfl
theorem lendArg_eq (h : HLe H H2) {v : AV} (hi : ∀ id ∈ ownIds (cellsOf v), id < H.length) : lendArg H v = lendArg H2 v := by
  cases v with
  | agg cs =>
    simp only [lendArg, AV.agg.injEq]
    replace hi : ∀ id ∈ ownIds cs, id < H.length := hi
    refine List.map_congr_left fun v hv => lendV_eq h fun id hid => hi id (ownIds_sub (by simpa using hv) id hid)
  | _ => first | rfl | exact lendV_eq h hi
theorem lendArgs_eq (h : HLe H H2) {args : List AV} (hi : ∀ v ∈ args, ∀ id ∈ ownIds (cellsOf v), id < H.length) : args.map (lendArg H) = args.map (lendArg H2) :=
  List.map_congr_left fun v hv => lendArg_eq h (hi v hv)

/-- what an operand may name -/
def Bnd (n : Nat) (v : AV) : Prop := (∀ id ∈ leafIds v, id < n) ∧ ∀ id ∈ ownIds (cellsOf v), id < n

theorem retVals_ro (ts : List Ty) (x : (retTy ts).den) (b b2 : Nat) : retVals false ts x b = retVals false ts x b2 ∧ (retVals false ts x b).2 = [] := by
  match ts, x with
  | [], _ => exact ⟨rfl, rfl⟩
  | [t], _ => exact ⟨rfl, rfl⟩
  | t :: u :: ts, x =>
    simp only [retVals]
    rw [(retVals_ro (u :: ts) x.2 b b2).1]
    exact ⟨rfl, True.intro⟩

/-- kind 1 -/
theorem opStep_read {call : (g : FuncId) → List AV → Hp → Option (Ret E g)} {o : Oper} {ts : List AV} (hk : kindOf E o.op = 1) :
    (∀ H σ H', opStep E call o ts H = some (σ, H') → H' = H ∧ ∀ H2, HLe H H2 → opStep E call o ts H2 = some (σ, H2)) ∧
    (∀ H H2 σ H', opStep E call o ts H2 = some (σ, H') → HLe H H2 → (∀ y ∈ o.op.operands, Bnd H.length (opnd E ts y)) → opStep E call o ts H = some (σ, H)) := by
  unfold opStep
  cases ho : o.op with
  | load t a =>
    simp only [opK]
    constructor
    · intro H σ H' h
      split at h
      · rename_i v hsz hv
        cases h
        refine ⟨rfl, fun H2 hl => ?_⟩
        rw [← loadP_eq hl (loadP_lt hv), hsz, hv]
      · cases h
    · intro H H2 σ H' h hl hb
      rw [loadP_eq hl (hb a (by simp [Op.operands])).1]
      split at h
      · rename_i v hsz hv
        cases h
        rfl
      · cases h
  | call c =>
    rw [ho] at hk
    simp only [kindOf] at hk
    cases hc : c.callee with
    | builtin b =>
      rw [hc] at hk
      cases b <;> simp at hk
    | invoke a b => simp only [hc]; refine ⟨fun _ _ _ h => ?_, fun _ _ _ _ h => ?_⟩ <;> cases h
    | value f =>
      rw [hc] at hk
      cases f with
      | func k =>
        simp only [] at hk
        cases hg : E.fi k with
        | none =>
          rw [hg] at hk
          simp only [] at hk
          split at hk
          · split at hk <;> cases hk
          · cases hk
        | some gi =>
          rw [hg] at hk
          simp only [] at hk
          cases hi : gi.inl with
          | true => rw [hi] at hk; cases hk
          | false =>
            rw [hi, Bool.false_or] at hk
            cases hs : (gi.own || shares false gi.rts) with
            | true => rw [hs] at hk; cases hgt : gi.take <;> rw [hgt] at hk <;> cases hk
            | false =>
              have ⟨ho1, hs1⟩ := Bool.or_eq_false_iff.1 hs
              have hr : rtsOf E k = gi.rts := by unfold rtsOf; rw [hg]
              have hfo : opnd E ts (.func k) = .fn k [] := rfl
              have ht : gi.take = false := by
                cases ht : gi.take with
                | false => rfl
                | true => rw [ht] at hk; cases hk
              simp only [hc, hfo, hg, hi, ht]
              have hac : ∀ (args : List AV) (H : Hp), afterCall gi.own (rtsOf E k) args H = H := by
                intro args H
                unfold afterCall
                rw [hr, ho1, hs1]
              have hv : ∀ x b, (retVals gi.own (rtsOf E k) x b).2 = [] := by
                intro x b
                rw [ho1]
                exact (retVals_ro _ x b b).2
              have hv1 : ∀ x b b2, (retVals gi.own (rtsOf E k) x b).1 = (retVals gi.own (rtsOf E k) x b2).1 := by
                intro x b b2
                rw [ho1, (retVals_ro _ x b b2).1]
              constructor
              · intro H σ H' h
                split at h
                · rename_i hok
                  rw [Bool.and_eq_true] at hok
                  obtain ⟨hok, hbe⟩ := hok
                  obtain ⟨x, hx, hy⟩ := Option.bind_eq_some_iff.1 h
                  rw [hac, hv, List.append_nil] at hy
                  cases hy
                  refine ⟨rfl, fun H2 hl => ?_⟩
                  have hlt := argsOk_lt hok
                  rw [argsOk_eq hl hlt] at hok
                  rw [hok, hbe]
                  simp only [Bool.and_self]
                  rw [← lendArgs_eq hl hlt, hx]
                  simp only [Option.bind_some]
                  rw [hac, hv, List.append_nil, hv1 (rFst (rtsOf E k) (backOf E k) x) H2.length H.length]
                · cases h
              · intro H H2 σ H' h hl hb
                have hlt : ∀ v ∈ c.args.toList.map (opnd E ts), ∀ id ∈ ownIds (cellsOf v), id < H.length := by
                  intro v hv
                  obtain ⟨y, hy, rfl⟩ := List.mem_map.1 hv
                  exact (hb y (by simp only [Op.operands, Call.operands, Array.mem_append]; exact .inr (by simpa using hy))).2
                split at h
                · rename_i hok
                  rw [Bool.and_eq_true] at hok
                  obtain ⟨hok, hbe⟩ := hok
                  obtain ⟨x, hx, hy⟩ := Option.bind_eq_some_iff.1 h
                  rw [hac, hv, List.append_nil] at hy
                  cases hy
                  rw [argsOk_eq hl hlt, hok, hbe]
                  simp only [Bool.and_self]
                  rw [lendArgs_eq hl hlt, hx]
                  simp only [Option.bind_some]
                  rw [hac, hv, List.append_nil, hv1 (rFst (rtsOf E k) (backOf E k) x) H.length H2.length]
                · cases h
      | _ => simp at hk
  | buildSlice t n p =>
    rw [ho] at hk
    cases n with
    | zero => simp [kindOf] at hk
    | succ n =>
      simp only [kindOf] at hk
      split at hk
      · split at hk <;> cases hk
      · cases hk
  | slice t x lo hi mx =>
    rw [ho] at hk
    simp only [kindOf] at hk
    have hww : ∀ {H H2 : Hp} {b : Bool} {v : AV}, HLe H H2 → (∀ id ∈ leafIds v, id < H.length) → widen H b v = widen H2 b v := by
      intro H H2 b v hl hb
      unfold widen
      split
      · rename_i id s off n
        obtain ⟨b1, b2, q1, q2, q3⟩ := hl.lt (hb id (by simp [leafIds]))
        rw [q1, q2]
        rcases q3 with rfl | ⟨t, l, c1, c2, rfl, rfl⟩ <;> rfl
      · rfl
    have hwt : ∀ {H : Hp} {b : Bool} {v σ : AV} {sz : Nat} {lo hi : Option AV} {H' : Hp}, sliceK sz (widen H b v) lo hi none (fun v => some (v, H)) = some (σ, H') → b = true → ∀ id ∈ leafIds v, (∃ s o n, v = .own id s o n) → id < H.length := by
      intro H b v σ sz lo hi H' h hb id hid ⟨s, o, n, hv⟩
      subst hv hb
      simp only [widen] at h
      split at h
      · rename_i hq; exact idx_lt hq
      · simp [sliceK] at h
    have hwn : ∀ {H : Hp} {b : Bool} {v : AV}, (¬ ∃ id s o n, v = .own id s o n ∧ b = true) → widen H b v = v := by
      intro H b v hn
      unfold widen
      split
      · rename_i a c d e; exact absurd ⟨_, _, _, _, rfl, rfl⟩ hn
      · rfl
    have hres : ∀ {H H2 : Hp} {v : AV} {sz : Nat} {lo hi mx : Option AV}, sliceK sz v lo hi mx (fun v => some (v, H)) = (sliceK sz v lo hi mx (fun v => some (v, H2))).bind fun p => some (p.1, H) := by
      intro H H2 v sz lo hi mx
      rw [sliceK_nat]; rfl
    have hres3 : ∀ {H H2 : Hp} {v m : AV} {lo hi : Option AV}, threeK v lo hi m (fun v => some (v, H)) = (threeK v lo hi m (fun v => some (v, H2))).bind fun p => some (p.1, H) := by
      intro H H2 v m lo hi
      rw [threeK_nat]; rfl
    simp only [opK]
    cases hd : (E.ti t).d with
    | slice e =>
      simp only []
      cases mx with
      | none =>
        simp only []
        constructor
        · intro H σ H' h
          have h0 := h
          rw [hres (H2 := H)] at h
          obtain ⟨p, hp, hq⟩ := Option.bind_eq_some_iff.1 h
          cases hq
          refine ⟨rfl, fun H2 hl => ?_⟩
          have hw2 : widen H (hi.map (opnd E ts)).isSome (opnd E ts x) = widen H2 (hi.map (opnd E ts)).isSome (opnd E ts x) := by
            by_cases hc : ∃ id s o n, opnd E ts x = .own id s o n ∧ (hi.map (opnd E ts)).isSome = true
            · obtain ⟨id, s, o, n, hv, hb⟩ := hc
              refine hww hl fun id' hid' => ?_
              have : id' = id := by rw [hv] at hid'; simpa [leafIds] using hid'
              subst this
              exact hwt h0 hb id' hid' ⟨s, o, n, hv⟩
            · rw [hwn hc, hwn hc]
          rw [← hw2, hres (H2 := H), hp]; rfl
        · intro H H2 σ H' h hl hb
          rw [← hww hl (hb x (by simp [Op.operands])).1, hres (H2 := H)] at h
          obtain ⟨p, hp, hq⟩ := Option.bind_eq_some_iff.1 h
          cases hq
          rw [hp]
          have hp0 := hp
          rw [hres (H2 := H)] at hp
          obtain ⟨q, hq, hr⟩ := Option.bind_eq_some_iff.1 hp
          cases hr; rfl
      | some m =>
        cases m with
        | const v =>
          simp only []
          constructor
          · intro H σ H' h
            have hp := h
            rw [hres (H2 := H)] at h
            obtain ⟨p, hp', hq⟩ := Option.bind_eq_some_iff.1 h
            cases hq
            refine ⟨rfl, fun H2 hl => ?_⟩
            rw [hres (H2 := H), hp']; rfl
          · intro H H2 σ H' h hl hb
            rw [hres (H2 := H2), h]; rfl
        | _ =>
          simp only []
          constructor
          · intro H σ H' h
            rw [hres3 (H2 := H)] at h
            obtain ⟨p, hp', hq⟩ := Option.bind_eq_some_iff.1 h
            cases hq
            refine ⟨rfl, fun H2 hl => ?_⟩
            rw [hres3 (H2 := H), hp']; rfl
          · intro H H2 σ H' h hl hb
            rw [hres3 (H2 := H2), h]; rfl
    | str =>
      rw [hd] at hk
      simp at hk
    | _ => refine ⟨fun _ _ _ h => ?_, fun _ _ _ _ h => ?_⟩ <;> cases h
  | convert p q r =>
    rw [ho] at hk
    simp only [kindOf] at hk
    split at hk <;> cases hk
  | binOp p q r y d =>
    rw [ho] at hk
    rcases kind_binOp (E := E) (a := p) (b := q) (c := r) (y := y) (d := d) with h' | h' <;> rw [h'] at hk <;> cases hk
  | _ => rw [ho] at hk; simp [kindOf] at hk

/-- kind 2 -/
theorem opStep_new {call : (g : FuncId) → List AV → Hp → Option (Ret E g)} {o : Oper} {ts : List AV} {σ : AV} {H' : Hp} (hk : kindOf E o.op = 2) (h : opStep E call o ts H = some (σ, H')) : HLe H H' := by
  unfold opStep at h
  cases ho : o.op with
  | alloc t =>
    simp only [ho, opK] at h
    split at h
    · split at h
      · unfold arrK at h
        split at h
        · cases h; exact .app _ _
        · cases h
      · cases h
    · split at h
      · cases h; exact .app _ _
      · cases h
  | box t x =>
    simp only [ho, opK] at h
    split at h
    · split at h
      · unfold arrK at h
        split at h
        · cases h; exact .app _ _
        · cases h
      · cases h
    · split at h
      · cases h; exact .app _ _
      · cases h
  | makeSlice t l c =>
    simp only [ho, opK] at h
    split at h
    · rename_i e k1 l k2 c h1 h2 h3
      cases hd : decide (0 ≤ l ∧ l ≤ c ∧ c < 4294967296) with
      | true => rw [hd] at h; cases h; exact .app _ _
      | false => rw [hd] at h; cases h
    · cases h
  | convert s d x =>
    simp only [ho, opK, convertK] at h
    split at h
    · cases h; exact .refl _
    · cases h; exact .refl _
    · split at h
      · cases h; exact .refl _
      · cases h
    · cases h
  | buildSlice t n p =>
    simp only [ho, opK] at h
    split at h
    · split at h
      · split at h
        · cases h; exact .app _ _
        · cases h; exact .lendAll _ _
      · cases h
    · cases h
  | call c =>
    rw [ho] at hk
    simp only [ho] at h
    simp only [kindOf] at hk
    cases hc : c.callee with
    | builtin b =>
      rw [hc] at hk
      cases b <;> simp at hk
    | invoke a b => simp only [hc] at h; cases h
    | value f =>
      simp only [hc] at h
      split at h
      · split at h
        · split at h
          · cases h
          · rename_i _ k' caps hfv _ gi hgi _ hi
            have ht : gi.take = false := by
              cases ht : gi.take with
              | false => rfl
              | true =>
                exfalso
                cases f with
                | func k2 =>
                  have : k2 = k' := by
                    have hfo : opnd E ts (.func k2) = .fn k2 [] := rfl
                    rw [hfo] at hfv; cases hfv; rfl
                  subst this
                  simp [hc, hgi, hi, ht] at hk
                | _ => simp [hc] at hk
            rw [ht] at h
            simp only [] at h
            split at h
            · obtain ⟨x, hx, hy⟩ := Option.bind_eq_some_iff.1 h
              cases hy
              refine HLe.trans (H2 := afterCall _ _ _ _) ?_ (.app _ _)
              unfold afterCall
              split
              · exact .lendAll _ _
              · exact .refl _
            · cases h
        · rename_i k' caps hfv _ hgi
          exfalso
          cases f with
          | func k2 =>
            have : k2 = k' := by
              have hfo : opnd E ts (.func k2) = .fn k2 [] := rfl
              rw [hfo] at hfv; cases hfv; rfl
            subst this
            simp only [hc, hgi] at hk
            split at hk
            · split at hk <;> cases hk
            · cases hk
          | _ => simp [hc] at hk
      · cases h
  | slice t x lo hi mx =>
    rw [ho] at hk
    simp only [kindOf] at hk
    split at hk <;> cases hk
  | binOp p q r y d =>
    rw [ho] at hk
    rcases kind_binOp (E := E) (a := p) (b := q) (c := r) (y := y) (d := d) with h' | h' <;> rw [h'] at hk <;> cases hk
  | _ => rw [ho] at hk; simp [kindOf] at hk
end
end Go.Proofs.YtmojilihllhadaaGreatDoor.Ev

/- Regions whose order is drawn: what the order of the text says holds in every order. -/
namespace Go.Proofs.YtmojilihllhadaaGreatDoor.Ev
open Go Go.RowKit
set_option linter.unusedVariables false
set_option linter.unusedSimpArgs false

section
variable {α : Type} {P : Program} {E : Env} {B : Nat → Prop} {F : Fz} {g : List GE} {w : World} {H H2 H3 : Hp}
variable {call : (g : FuncId) → List AV → Hp → Option (Ret E g)} {inl : FI → List AV → Hp → Fin α → Option α} {ops : Array Oper}

theorem guard_cases (ops : Array Oper) (ts : List AV) (o : Oper) :
    (∀ {α : Type} (yes no : Option α), guardOf ops ts o yes no = yes) ∨ (∀ {α : Type} (yes no : Option α), guardOf ops ts o yes no = no) ∨ (∀ {α : Type} (yes no : Option α), guardOf ops ts o yes no = none) := by
  unfold guardOf
  split
  · exact .inl fun _ _ => rfl
  · rename_i j want _
    split
    · rename_i d _
      split
      · rename_i b _
        cases hb : (b == want) with
        | true => exact .inl fun _ _ => rfl
        | false => exact .inr (.inl fun _ _ => rfl)
      · exact .inr (.inl fun _ _ => rfl)
      · exact .inr (.inr fun _ _ => rfl)
    · exact .inr (.inr fun _ _ => rfl)

noncomputable def step1 (E : Env) (call : (g : FuncId) → List AV → Hp → Option (Ret E g)) (ops : Array Oper) (o : Oper) (ts : List AV) (H : Hp) : Option (AV × Hp) :=
  guardOf ops ts o (opStep E call o ts H) (some (.raw undef, H))

theorem opsK_step1 {i : Nat} {r : List Nat} {ts : List AV} {K : List AV → Hp → Option α} {o : Oper} (ho : ops[i]? = some o) (hn : nilOp o.op = false) (hI : mayInl E o.op = false) :
    opsK E call inl ops (i :: r) ts H K = (step1 E call ops o ts H).bind fun p => opsK E call inl ops r (put ts o.dst p.1) p.2 K := by
  rw [opsK_step ho hn hI]
  unfold step1
  rcases guard_cases ops ts o with h | h | h <;> simp only [h] <;> rfl

theorem guardOf_put {ts : List AV} {dd : Option Tmp} {v : AV} {o : Oper} (h : ∀ d, dd = some d → d ∉ looks ops o) {yes no : Option α} : guardOf ops (put ts dd v) o yes no = guardOf ops ts o yes no := by
  cases dd with
  | none => rfl
  | some d =>
    have hd := h d rfl
    unfold guardOf
    cases hg : o.guard with
    | none => rfl
    | some p =>
      obtain ⟨j, want⟩ := p
      simp only []
      cases hj : (ops[j]?).bind (·.dst) with
      | none => rfl
      | some e =>
        have hne : d ≠ e := by
          rintro rfl
          exact hd (by simp [looks, hg, hj])
        simp only [put, List.getD]
        rw [List.getElem?_set_ne hne]

theorem step1_put {ts : List AV} {dd : Option Tmp} {v : AV} {o : Oper} (h : ∀ d, dd = some d → d ∉ looks ops o) : step1 E call ops o (put ts dd v) H = step1 E call ops o ts H := by
  unfold step1
  rw [guardOf_put h, opStep_congr fun y hy => opnd_put fun t ht e => h t ht ?_]
  simp only [looks, List.mem_append, List.mem_filterMap]
  exact .inl ⟨y, by simpa using hy, by rw [e]⟩

theorem step1_zero {o : Oper} {ts : List AV} {σ : AV} {H' : Hp} (hk : kindOf E o.op = 0) (h : step1 E call ops o ts H = some (σ, H')) : H' = H ∧ ∀ H2, step1 E call ops o ts H2 = some (σ, H2) := by
  unfold step1 at h ⊢
  rcases guard_cases ops ts o with hg | hg | hg
  · simp only [hg] at h ⊢; exact opStep_zero hk h
  · simp only [hg] at h ⊢; cases h; exact ⟨rfl, fun _ => rfl⟩
  · simp only [hg] at h; cases h
theorem step1_read {o : Oper} {ts : List AV} {σ : AV} {H' : Hp} (hk : kindOf E o.op = 1) (h : step1 E call ops o ts H = some (σ, H')) : H' = H ∧ ∀ H2, HLe H H2 → step1 E call ops o ts H2 = some (σ, H2) := by
  unfold step1 at h ⊢
  rcases guard_cases ops ts o with hg | hg | hg
  · simp only [hg] at h ⊢; exact (opStep_read hk).1 _ _ _ h
  · simp only [hg] at h ⊢; cases h; exact ⟨rfl, fun _ _ => rfl⟩
  · simp only [hg] at h; cases h
theorem step1_anti {o : Oper} {ts : List AV} {σ : AV} {H' : Hp} (hk : kindOf E o.op = 1) (h : step1 E call ops o ts H2 = some (σ, H')) (hl : HLe H H2) (hb : ∀ y ∈ o.op.operands, Bnd H.length (opnd E ts y)) : step1 E call ops o ts H = some (σ, H) := by
  unfold step1 at h ⊢
  rcases guard_cases ops ts o with hg | hg | hg
  · simp only [hg] at h ⊢; exact (opStep_read hk).2 _ _ _ _ h hl hb
  · simp only [hg] at h ⊢; cases h; rfl
  · simp only [hg] at h; cases h
theorem step1_new {o : Oper} {ts : List AV} {σ : AV} {H' : Hp} (hk : kindOf E o.op = 2) (h : step1 E call ops o ts H = some (σ, H')) : HLe H H' := by
  unfold step1 at h
  rcases guard_cases ops ts o with hg | hg | hg
  · simp only [hg] at h; exact opStep_new hk h
  · simp only [hg] at h; cases h; exact .refl _
  · simp only [hg] at h; cases h

theorem put_comm {ts : List AV} {a b : Option Tmp} {u v : AV} (h : ∀ d, a = some d → b ≠ some d) : put (put ts a u) b v = put (put ts b v) a u := by
  cases a with
  | none => rfl
  | some a =>
    cases b with
    | none => rfl
    | some b =>
      simp only [put]
      exact List.set_comm _ _ fun e => h a rfl (by rw [e])

/-! #### pointers into known variables -/
def VoOk (vo : List (Nat × Nat)) (ts : List AV) : Prop := ∀ p ∈ vo, okB p.2 (ts.getD p.1 .top) = true
def VK (vo : List (Nat × Nat)) (o : Oper) : Prop := ∀ d, o.dst = some d → (∀ id, (d, id) ∉ vo) ∨ ∃ b, basedOn o.op = some (.tmp b) ∧ ∀ id, (d, id) ∈ vo → (b, id) ∈ vo
theorem VoOk.put {vo : List (Nat × Nat)} {ts : List AV} {o : Oper} {σ : AV} (h : VoOk vo ts) (hk : VK vo o)
    (hs : FaOk E ts o.op σ) : VoOk vo (Ev.put ts o.dst σ) := by
  rintro ⟨s, id⟩ hp
  by_cases hd : o.dst = some s
  · have hval : (Ev.put ts o.dst σ).getD s .top = σ ∨ (Ev.put ts o.dst σ).getD s .top = .top := by
      rw [hd]
      simp only [Ev.put, List.getD]
      by_cases hl : s < ts.length
      · exact .inl (by simp [hl])
      · exact .inr (by simp [hl])
    rcases hval with e | e
    · show okB id ((Ev.put ts o.dst σ).getD s .top) = true
      rw [e]
      rcases hk s hd with hn | ⟨b, h1, h2⟩
      · exact absurd hp (hn id)
      · exact (hs _ h1).1 id (h (b, id) (h2 id hp))
    · show okB id ((Ev.put ts o.dst σ).getD s .top) = true
      rw [e]; rfl
  · show okB id ((Ev.put ts o.dst σ).getD s .top) = true
    rw [put_getD hd]
    exact h (s, id) hp
theorem step1_fa {o : Oper} {ts : List AV} {σ : AV} {H' : Hp} (h : step1 E call ops o ts H = some (σ, H')) : FaOk E ts o.op σ := by
  intro y ho
  unfold step1 at h
  rcases guard_cases ops ts o with hg | hg | hg
  · simp only [hg] at h
    unfold opStep at h
    cases hop : o.op with
    | move y' =>
      rw [hop] at ho; cases ho
      simp only [hop, opK] at h
      cases h
      exact ⟨fun _ h => h, fun h => h⟩
    | fieldAddr t y' f =>
      rw [hop] at ho; cases ho
      simp only [hop, opK] at h
      split at h
      · rename_i off size ag hfl
        split at h
        · rename_i p hb hp
          cases h
          exact ⟨fun id hid => okB_field hid hp, fun hr => okR_field hr hp⟩
        · cases h
      · cases h
    | indexAddr t y' f =>
      rw [hop] at ho; cases ho
      simp only [hop, opK] at h
      split at h
      · unfold idxK at h
        split at h
        · rename_i hx
          split at h
          · rw [hx]; obtain ⟨_, q⟩ := cond_some h; cases q; exact ⟨fun id hid => (by cases hid), fun _ => rfl⟩
          · cases h
        · rename_i hx; rw [hx]; exact ⟨fun id hid => (by cases hid), fun hr => (by cases hr)⟩
        · rename_i hx; rw [hx]; exact ⟨fun id hid => (by cases hid), fun hr => (by cases hr)⟩
        · cases h
      · unfold idxA at h
        split at h
        · rename_i hx
          split at h
          · obtain ⟨_, q⟩ := cond_some h
            cases q
            rw [hx]
            exact ⟨fun id hid => hid, fun hr => (by cases hr)⟩
          · cases h
        · cases h
      · cases h
    | _ => rw [hop] at ho; cases ho
  · simp only [hg] at h; cases h; exact ⟨fun _ _ => rfl, fun _ => rfl⟩
  · simp only [hg] at h; cases h
theorem lookV_mem {s id : Nat} : ∀ {vo : List (Nat × Nat)}, lookV s vo = some id → (s, id) ∈ vo
  | [], h => by cases h
  | p :: r, h => by
    simp only [lookV] at h
    split at h
    · rename_i e
      cases h
      have := Nat.eq_of_beq_eq_true e
      subst this
      simp
    · exact List.mem_cons_of_mem _ (lookV_mem h)
theorem ptrOf_ok {vo : List (Nat × Nat)} {ts : List AV} {y : Operand} {id : Nat} (h : VoOk vo ts) (hp : ptrOf vo y = some id) : okB id (opnd E ts y) = true := by
  cases y with
  | tmp s => exact h (s, id) (lookV_mem hp)
  | _ => cases hp
/-- a block as it was, but for the mark that it is lent -/
def SameB (H H2 : Hp) (j : Nat) : Prop := H2[j]? = H[j]? ∨ ∃ t l c c', H[j]? = some (.arr t l c) ∧ H2[j]? = some (.arr t l c')
theorem SameB.symm {j : Nat} (h : SameB H H2 j) : SameB H2 H j := by
  rcases h with h | ⟨t, l, c, c', h1, h2⟩
  · exact .inl h.symm
  · exact .inr ⟨t, l, c', c, h2, h1⟩
theorem SameB.lend (ids : List Nat) (H : Hp) (j : Nat) : SameB H (lendAll H ids) j := by
  cases hj : H[j]? with
  | none =>
    refine .inl ?_
    rw [hj, List.getElem?_eq_none]
    rw [lendAll_len]
    exact List.getElem?_eq_none_iff.1 hj
  | some b =>
    obtain ⟨b', h1, h2⟩ := (HLe.lendAll ids H).get j b hj
    rcases h2 with rfl | ⟨t, l, c, c', rfl, rfl⟩
    · exact .inl (by rw [hj, h1])
    · exact .inr ⟨t, l, c, c', hj, h1⟩
theorem storeP_at {i sz : Nat} {v x : AV} {H' : Hp} (hx : okB i x = true) (h : storeP H sz v x = some H') : H'.length = H.length ∧ ∀ j, j ≠ i → SameB H H' j := by
  cases x with
  | ptr id k =>
    have hid : id = i := Nat.eq_of_beq_eq_true hx
    subst hid
    simp only [storeP] at h
    split at h
    · split at h
      · cases h
        exact ⟨by simp, fun j hj => .inl (by rw [List.getElem?_set_ne (Ne.symm hj)])⟩
      · cases h
    · cases h
  | eptr id k q =>
    have hid : id = i := Nat.eq_of_beq_eq_true hx
    subst hid
    simp only [storeP] at h
    split at h
    · split at h
      · cases h
      · split at h
        · cases h
          refine ⟨by simp [lendAll_len], fun j hj => ?_⟩
          have := SameB.lend (ownIds (cellsOf v)) H j
          unfold SameB at this ⊢
          rw [List.getElem?_set_ne (Ne.symm hj)]
          exact this
        · cases h
    · cases h
  | aptr id s n =>
    have hid : id = i := Nat.eq_of_beq_eq_true hx
    subst hid
    simp only [storeP] at h
    split at h
    · split at h
      · cases h
        exact ⟨by simp, fun j hj => .inl (by rw [List.getElem?_set_ne (Ne.symm hj)])⟩
      · cases h
    · cases h
  | top => cases h
  | raw u => cases h
  | _ => cases hx
theorem loadP_at {j sz : Nat} {ag : Bool} {y : AV} {H2 : Hp} (hy : okB j y = true) (h : SameB H H2 j) : loadP H2 ag sz y = loadP H ag sz y := by
  cases y with
  | ptr id k =>
    have hid : id = j := Nat.eq_of_beq_eq_true hy
    subst hid
    rcases h with h | ⟨t, l, c, c', h1, h2⟩
    · simp only [loadP, h]
    · simp only [loadP, h1, h2]
  | eptr id k q =>
    have hid : id = j := Nat.eq_of_beq_eq_true hy
    subst hid
    rcases h with h | ⟨t, l, c, c', h1, h2⟩
    · simp only [loadP, h]
    · simp only [loadP, h1, h2]
  | aptr id s n =>
    have hid : id = j := Nat.eq_of_beq_eq_true hy
    subst hid
    rcases h with h | ⟨t, l, c, c', h1, h2⟩
    · simp only [loadP, h]
    · simp only [loadP, h1, h2]
  | top => rfl
  | raw u => rfl
  | _ => cases hy
theorem step1_store {o : Oper} {ts : List AV} {σ : AV} {H' : Hp} {t : TypeId} {x v : Operand} {i : Nat} (ho : o.op = .store t x v) (hx : okB i (opnd E ts x) = true) (h : step1 E call ops o ts H = some (σ, H')) :
    H'.length = H.length ∧ ∀ j, j ≠ i → SameB H H' j := by
  unfold step1 at h
  rcases guard_cases ops ts o with hg | hg | hg
  · simp only [hg] at h
    unfold opStep at h
    simp only [ho, opK] at h
    split at h
    · rename_i H1 hb hp
      cases h
      exact storeP_at hx hp
    · cases h
  · simp only [hg] at h; cases h; exact ⟨rfl, fun _ _ => .inl rfl⟩
  · simp only [hg] at h; cases h
theorem step1_load {o : Oper} {ts : List AV} {σ : AV} {H' : Hp} {t : TypeId} {y : Operand} {j : Nat} (ho : o.op = .load t y) (hy : okB j (opnd E ts y) = true) (h : step1 E call ops o ts H = some (σ, H')) :
    H' = H ∧ ∀ H2 : Hp, SameB H H2 j → step1 E call ops o ts H2 = some (σ, H2) := by
  unfold step1 at h ⊢
  rcases guard_cases ops ts o with hg | hg | hg
  · simp only [hg] at h ⊢
    unfold opStep at h ⊢
    simp only [ho, opK] at h ⊢
    split at h
    · rename_i v hb hp
      cases h
      refine ⟨rfl, fun H2 e => ?_⟩
      rw [loadP_at hy e, hb, hp]
    · cases h
  · simp only [hg] at h ⊢; cases h; exact ⟨rfl, fun _ _ => rfl⟩
  · simp only [hg] at h; cases h
theorem apartSL_cases {vo : List (Nat × Nat)} {a b : Op} (h : apartSL vo a b = true) :
    (∃ t x v t' y i j, a = .store t x v ∧ b = .load t' y ∧ ptrOf vo x = some i ∧ ptrOf vo y = some j ∧ i ≠ j) ∨
    (∃ t x v t' y i j, b = .store t x v ∧ a = .load t' y ∧ ptrOf vo x = some i ∧ ptrOf vo y = some j ∧ i ≠ j) := by
  have key : ∀ {x y : Operand}, otherV vo x y = true → ∃ i j, ptrOf vo x = some i ∧ ptrOf vo y = some j ∧ i ≠ j := by
    intro x y h
    unfold otherV at h
    split at h
    · rename_i i j h1 h2
      refine ⟨i, j, h1, h2, ?_⟩
      rintro rfl
      simp at h
    · cases h
  cases a with
  | store t x v =>
    cases b with
    | load t' y =>
      obtain ⟨i, j, h1, h2, h3⟩ := key h
      exact .inl ⟨t, x, v, t', y, i, j, rfl, rfl, h1, h2, h3⟩
    | _ => cases h
  | load t' y =>
    cases b with
    | store t x v =>
      obtain ⟨i, j, h1, h2, h3⟩ := key h
      exact .inr ⟨t, x, v, t', y, i, j, rfl, rfl, h1, h2, h3⟩
    | _ => cases h
  | _ => cases h

/-- what is known of the slots that are read through -/
def RoOk (ro : List Nat) (ts : List AV) : Prop := ∀ s ∈ ro, okR (ts.getD s .top) = true
def RW (ro : List Nat) (o : Oper) : Prop := ∀ d, o.dst = some d → d ∈ ro → ∃ b, basedOn o.op = some (.tmp b) ∧ b ∈ ro
theorem roStep_ok (ops : Array Oper) (ts : List AV) (S : List Nat) : RoOk (roStep ops ts S) ts := fun s hs => by
  have := (List.mem_filter.1 hs).2
  rw [Bool.and_eq_true] at this
  exact this.1
theorem roStep_mono {ops : Array Oper} {ts : List AV} {S T : List Nat} (h : ∀ s ∈ S, s ∈ T) : ∀ s ∈ roStep ops ts S, s ∈ roStep ops ts T := by
  intro s hs
  obtain ⟨h1, h2⟩ := List.mem_filter.1 hs
  refine List.mem_filter.2 ⟨h1, ?_⟩
  rw [Bool.and_eq_true] at h2 ⊢
  refine ⟨h2.1, ?_⟩
  rw [List.all_eq_true] at h2 ⊢
  intro o ho
  have := h2.2 o ho
  rw [Bool.or_eq_true] at this ⊢
  refine this.imp id fun h3 => ?_
  unfold basedIn at h3 ⊢
  split at h3
  · simp only [List.contains_iff_mem] at h3 ⊢; exact h _ h3
  · cases h3
theorem roStep_w {ops : Array Oper} {ts : List AV} {S : List Nat} (h : ∀ s ∈ S, s ∈ roStep ops ts S) {k : Nat} {o : Oper} (ho : ops[k]? = some o) : RW (roStep ops ts S) o := by
  intro d hd hs
  have h2 := (List.mem_filter.1 hs).2
  rw [Bool.and_eq_true, List.all_eq_true] at h2
  have hm : o ∈ ops.toList := List.mem_of_getElem? (by rw [Array.getElem?_toList]; exact ho)
  have := h2.2 o hm
  rw [Bool.or_eq_true] at this
  rcases this with h3 | h3
  · rw [hd] at h3; simp at h3
  · unfold basedIn at h3
    split at h3
    · rename_i b hb
      exact ⟨b, hb, h b (by simpa using h3)⟩
    · cases h3
theorem roOf_ok (ops : Array Oper) (ts : List AV) : RoOk (roOf ops ts).1 ts := fun s hs => roStep_ok ops ts _ s hs
theorem roOf_keep {ops : Array Oper} {ts : List AV} {k : Nat} {o : Oper} (ho : ops[k]? = some o) : RW (roOf ops ts).1 o :=
  roStep_w (roStep_mono (roStep_mono (roStep_mono fun _ h => by cases h))) ho
theorem voOf_mem {ops : Array Oper} {ts : List AV} {s id : Nat} (h : (s, id) ∈ (roOf ops ts).2) :
    (unwr ops s = true ∧ baseAt ts s = some id) ∨ (unwr ops s = false ∧ ∃ b, fieldBase ops s = some b ∧ unwr ops b = true ∧ baseAt ts b = some id ∧ okB id (ts.getD s .top) = true) := by
  obtain ⟨s', hs', h⟩ := List.mem_filterMap.1 (show (s, id) ∈ voOf ops ts from h)
  split at h
  · rename_i hu
    obtain ⟨i, hi, e⟩ := Option.map_eq_some_iff.1 h
    cases e
    exact .inl ⟨hu, hi⟩
  · rename_i hu
    split at h
    · rename_i b hb
      split at h
      · rename_i i h1 h2
        split at h
        · rename_i h3
          cases h
          exact .inr ⟨hu, b, hb, h1, h2, h3⟩
        · cases h
      · cases h
    · cases h
theorem baseAt_ok {ts : List AV} {s id : Nat} (h : baseAt ts s = some id) : okB id (ts.getD s .top) = true := by
  unfold baseAt at h
  split at h
  · rename_i i k e
    cases h
    rw [e]
    simp [okB]
  · rename_i i k q e
    cases h
    rw [e]
    simp [okB]
  · rename_i i k q e
    cases h
    rw [e]
    simp [okB]
  · cases h
theorem voOf_ok (ops : Array Oper) (ts : List AV) : VoOk (roOf ops ts).2 ts := by
  rintro ⟨s, id⟩ h
  rcases voOf_mem h with ⟨_, h1⟩ | ⟨_, b, _, _, _, h1⟩
  · exact baseAt_ok h1
  · exact h1
theorem voOf_base {ops : Array Oper} {ts : List AV} {s id : Nat} (h1 : unwr ops s = true) (h2 : baseAt ts s = some id) : (s, id) ∈ (roOf ops ts).2 := by
  have hl : s < ts.length := by
    apply Classical.byContradiction
    intro hn
    unfold baseAt at h2
    rw [List.getD, List.getElem?_eq_none (by omega)] at h2
    cases h2
  refine List.mem_filterMap.2 ⟨s, List.mem_range.2 hl, ?_⟩
  simp only [h1, h2]
  rfl
theorem voOf_keep {ops : Array Oper} {ts : List AV} {k : Nat} {o : Oper} (ho : ops[k]? = some o) : VK (roOf ops ts).2 o := by
  intro d hd
  by_cases hin : ∃ id, (d, id) ∈ (roOf ops ts).2
  · obtain ⟨id, hid⟩ := hin
    have hm : o ∈ ops.toList := List.mem_of_getElem? (by rw [Array.getElem?_toList]; exact ho)
    have hu : unwr ops d = false := by
      unfold unwr
      rw [List.all_eq_false]
      exact ⟨o, hm, by simp [hd]⟩
    have key : ∀ id, (d, id) ∈ (roOf ops ts).2 → ∃ b, fieldBase ops d = some b ∧ unwr ops b = true ∧ baseAt ts b = some id := by
      intro id hid
      rcases voOf_mem hid with ⟨h1, _⟩ | ⟨_, b, h1, h2, h3, _⟩
      · rw [hu] at h1; cases h1
      · exact ⟨b, h1, h2, h3⟩
    obtain ⟨b, h1, h2, h3⟩ := key id hid
    refine .inr ?_
    have hf := h1
    unfold fieldBase at hf
    split at hf
    · rename_i o' ho'
      have hoo : o ∈ ops.toList.filter fun o => o.dst == some d := List.mem_filter.2 ⟨hm, by simp [hd]⟩
      rw [ho'] at hoo
      have : o = o' := by simpa using hoo
      subst this
      split at hf
      · rename_i b' hop
        cases hf
        refine ⟨b, hop, fun id' hid' => ?_⟩
        obtain ⟨b2, g1, g2, g3⟩ := key id' hid'
        rw [h1] at g1; cases g1
        exact voOf_base g2 g3
      · cases hf
    · cases hf
  · exact .inl fun id hid => hin ⟨id, hid⟩
theorem kindR_cases {ro : List Nat} {o : Op} : kindR E ro o = kindOf E o ∨ (kindR E ro o = 0 ∧ ∃ t s, o = .load t (.tmp s) ∧ s ∈ ro) := by
  unfold kindR
  split
  · rename_i t s
    split
    · rename_i h
      exact .inr ⟨rfl, t, s, rfl, by simpa using h⟩
    · exact .inl rfl
  · exact .inl rfl
theorem kindR_pos {ro : List Nat} {o : Op} {n : Nat} (h : kindR E ro o = n + 1) : kindOf E o = n + 1 := by
  rcases kindR_cases (E := E) (ro := ro) (o := o) with h1 | ⟨h1, _⟩
  · rw [← h1]; exact h
  · rw [h1] at h; cases h
theorem step1_zeroR {ro : List Nat} {o : Oper} {ts : List AV} {σ : AV} {H' : Hp} (hk : kindR E ro o.op = 0) (hro : RoOk ro ts) (h : step1 E call ops o ts H = some (σ, H')) : H' = H ∧ ∀ H2, step1 E call ops o ts H2 = some (σ, H2) := by
  rcases kindR_cases (E := E) (ro := ro) (o := o.op) with h1 | ⟨_, t, s, ho, hs⟩
  · exact step1_zero (h1 ▸ hk) h
  · have hr := hro s hs
    have key : ∀ (H H' : Hp) (σ : AV), opStep E call o ts H = some (σ, H') → H' = H ∧ ∀ H2, opStep E call o ts H2 = some (σ, H2) := by
      intro H H' σ h
      unfold opStep at h ⊢
      simp only [ho, opK, opnd] at h ⊢
      generalize ts.getD s .top = v at hr h ⊢
      cases v with
      | rptr t' l i j =>
        simp only [loadP] at h ⊢
        split at h
        · rename_i u h1 h2
          cases h
          refine ⟨rfl, fun H2 => ?_⟩
          first | rfl | rw [h1, h2]
        · cases h
      | sl t' l =>
        exfalso
        simp only [loadP] at h
        split at h
        · rename_i h1; cases h1
        · cases h
      | emp =>
        exfalso
        simp only [loadP] at h
        split at h
        · rename_i h1; cases h1
        · cases h
      | top =>
        exfalso
        simp only [loadP] at h
        split at h
        · rename_i h1; cases h1
        · cases h
      | raw u =>
        exfalso
        simp only [loadP] at h
        split at h
        · rename_i h1; cases h1
        · cases h
      | _ => cases hr
    unfold step1 at h ⊢
    rcases guard_cases ops ts o with hg | hg | hg
    · simp only [hg] at h ⊢; exact key _ _ _ h
    · simp only [hg] at h ⊢; cases h; exact ⟨rfl, fun _ => rfl⟩
    · simp only [hg] at h; cases h

structure Apart (E : Env) (ro : Ro) (ops : Array Oper) (a b : Oper) : Prop where
  ab : ∀ d, a.dst = some d → d ∉ looks ops b
  ba : ∀ d, b.dst = some d → d ∉ looks ops a
  ne : ∀ d, a.dst = some d → b.dst ≠ some d
  nila : nilOp a.op = false
  nilb : nilOp b.op = false
  kind : apartK (kindR E ro.1 a.op) (kindR E ro.1 b.op) = true ∨ apartSL ro.2 a.op b.op = true
  wa : RW ro.1 a
  wv : VK ro.2 a
  ia : mayInl E a.op = false
  ib : mayInl E b.op = false

theorem apartK_cases {a b : Nat} (h : apartK a b = true) : a = 0 ∨ b = 0 ∨ (a = 1 ∧ b = 1) ∨ (a = 1 ∧ b = 2) ∨ (a = 2 ∧ b = 1) := by
  unfold apartK at h
  split at h
  · exact .inl rfl
  · exact .inr (.inl rfl)
  · exact .inr (.inr (.inl ⟨rfl, rfl⟩))
  · exact .inr (.inr (.inr (.inl ⟨rfl, rfl⟩)))
  · exact .inr (.inr (.inr (.inr ⟨rfl, rfl⟩)))
  · cases h

theorem swap {ro : Ro} {k i : Nat} {ok oi : Oper} {r : List Nat} {ts : List AV} {K : List AV → Hp → Option α} {x : α} (hk : ops[k]? = some ok) (hi : ops[i]? = some oi) (ha : Apart E ro ops ok oi) (hro : RoOk ro.1 ts) (hvo : VoOk ro.2 ts)
    (hb : kindR E ro.1 oi.op = 1 → ∀ y ∈ oi.op.operands, Bnd H.length (opnd E ts y))
    (h : opsK E call inl ops (k :: i :: r) ts H K = some x) : opsK E call inl ops (i :: k :: r) ts H K = some x := by
  rw [opsK_step1 hk ha.nila ha.ia] at h
  obtain ⟨⟨σk, Hk⟩, h1, h2⟩ := Option.bind_eq_some_iff.1 h
  simp only [] at h2
  rw [opsK_step1 hi ha.nilb ha.ib] at h2
  obtain ⟨⟨σi, Hi⟩, h3, h4⟩ := Option.bind_eq_some_iff.1 h2
  simp only [] at h4
  rw [step1_put ha.ab] at h3
  have : ∃ H1, step1 E call ops oi ts H = some (σi, H1) ∧ step1 E call ops ok ts H1 = some (σk, Hi) := by
    rcases ha.kind with hkind | hkind
    rotate_left
    · rcases apartSL_cases hkind with ⟨t, x', v, t', y, p, q, e1, e2, e3, e4, e5⟩ | ⟨t, x', v, t', y, p, q, e1, e2, e3, e4, e5⟩
      · obtain ⟨rfl, h6⟩ := step1_load e2 (ptrOf_ok (E := E) hvo e4) h3
        have h5 := (step1_store e1 (ptrOf_ok (E := E) hvo e3) h1).2 q (Ne.symm e5)
        exact ⟨_, h6 _ h5.symm, h1⟩
      · obtain ⟨rfl, h6⟩ := step1_load e2 (ptrOf_ok (E := E) hvo e4) h1
        have h5 := (step1_store e1 (ptrOf_ok (E := E) hvo e3) h3).2 q (Ne.symm e5)
        exact ⟨_, h3, h6 _ h5⟩
    rcases apartK_cases hkind with h0 | h0 | ⟨h0, h00⟩ | ⟨h0, h00⟩ | ⟨h0, h00⟩
    · obtain ⟨rfl, h5⟩ := step1_zeroR h0 hro h1
      exact ⟨_, h3, h5 _⟩
    · obtain ⟨rfl, h5⟩ := step1_zeroR h0 hro h3
      exact ⟨_, h5 _, h1⟩
    · obtain ⟨rfl, h5⟩ := step1_read (kindR_pos h0) h1
      obtain ⟨rfl, h6⟩ := step1_read (kindR_pos h00) h3
      exact ⟨_, h3, h1⟩
    · obtain ⟨rfl, h5⟩ := step1_read (kindR_pos h0) h1
      exact ⟨_, h3, h5 _ (step1_new (kindR_pos h00) h3)⟩
    · obtain ⟨rfl, h6⟩ := step1_read (kindR_pos h00) h3
      exact ⟨_, step1_anti (kindR_pos h00) h3 (step1_new (kindR_pos h0) h1) (hb h00), h1⟩
  obtain ⟨H1, k1, k2⟩ := this
  rw [opsK_step1 hi ha.nilb ha.ib, k1]
  simp only [Option.bind_some]
  rw [opsK_step1 hk ha.nila ha.ia, step1_put ha.ba, k2]
  simp only [Option.bind_some]
  rw [← put_comm ha.ne]
  exact h4

theorem Bnd.mono {n m : Nat} {v : AV} (h : Bnd n v) (k : n ≤ m) : Bnd m v := ⟨fun i hi => Nat.lt_of_lt_of_le (h.1 i hi) k, fun i hi => Nat.lt_of_lt_of_le (h.2 i hi) k⟩

theorem RoOk.put {ro : List Nat} {ts : List AV} {o : Oper} {σ : AV} (h : RoOk ro ts) (hk : RW ro o) (hs : FaOk E ts o.op σ) : RoOk ro (put ts o.dst σ) := by
  intro s hp
  by_cases hd : o.dst = some s
  · have hval : (Ev.put ts o.dst σ).getD s .top = σ ∨ (Ev.put ts o.dst σ).getD s .top = .top := by
      rw [hd]
      simp only [Ev.put, List.getD]
      by_cases hl : s < ts.length
      · exact .inl (by simp [hl])
      · exact .inr (by simp [hl])
    rcases hval with e | e
    · rw [e]
      obtain ⟨b, h1, h2⟩ := hk s hd hp
      exact (hs _ h1).2 (h b h2)
    · rw [e]; rfl
  · rw [put_getD hd]
    exact h s hp

theorem front {ro : Ro} {i : Nat} {oi : Oper} {l2 : List Nat} {K : List AV → Hp → Option α} {x : α} (hi : ops[i]? = some oi) : ∀ (l1 : List Nat) (ts : List AV) (H : Hp),
    (∀ k ∈ l1, ∃ ok, ops[k]? = some ok ∧ Apart E ro ops ok oi) → RoOk ro.1 ts → VoOk ro.2 ts → (kindR E ro.1 oi.op = 1 → ∀ y ∈ oi.op.operands, Bnd H.length (opnd E ts y)) →
    opsK E call inl ops (l1 ++ i :: l2) ts H K = some x → opsK E call inl ops (i :: (l1 ++ l2)) ts H K = some x
  | [], ts, H, _, _, _, _, h => h
  | k :: l1, ts, H, ha, hro, hvo, hb, h => by
    obtain ⟨ok, hk, hap⟩ := ha k (by simp)
    refine swap hk hi hap hro hvo hb ?_
    have h : opsK E call inl ops (k :: (l1 ++ i :: l2)) ts H K = some x := h
    rw [opsK_step1 hk hap.nila hap.ia] at h ⊢
    obtain ⟨⟨σk, Hk⟩, h1, h2⟩ := Option.bind_eq_some_iff.1 h
    simp only [] at h2
    rw [h1]
    simp only [Option.bind_some]
    refine front hi l1 _ _ (fun k' hk' => ha k' (by simp [hk'])) (hro.put (E := E) hap.wa (step1_fa h1)) (hvo.put (E := E) hap.wv (step1_fa h1)) (fun h0 y hy => ?_) h2
    have hl : H.length ≤ Hk.length := by
      rcases hap.kind with hkind | hkind
      rotate_left
      · rcases apartSL_cases hkind with ⟨t, x', v, t', y, p, q, e1, e2, e3, e4, e5⟩ | ⟨t, x', v, t', y, p, q, e1, e2, e3, e4, e5⟩
        · exact Nat.le_of_eq (step1_store e1 (ptrOf_ok (E := E) hvo e3) h1).1.symm
        · rw [(step1_load e2 (ptrOf_ok (E := E) hvo e4) h1).1]; exact Nat.le_refl _
      rcases apartK_cases hkind with h5 | h5 | ⟨h5, _⟩ | ⟨h5, h6⟩ | ⟨h5, _⟩
      · rw [(step1_zeroR h5 hro h1).1]; exact Nat.le_refl _
      · rw [h0] at h5; cases h5
      · rw [(step1_read (kindR_pos h5) h1).1]; exact Nat.le_refl _
      · rw [h0] at h6; cases h6
      · exact (step1_new (kindR_pos h5) h1).len
    rw [opnd_put fun t ht e => hap.ab t ht ?_]
    · exact (hb h0 y hy).mono hl
    · simp only [looks, List.mem_append, List.mem_filterMap]
      exact .inl ⟨y, by simpa using hy, by rw [e]⟩
end
end Go.Proofs.YtmojilihllhadaaGreatDoor.Ev

/- Regions whose order is drawn: the machine. -/
namespace Go.Proofs.YtmojilihllhadaaGreatDoor.Ev
open Go Go.RowKit
set_option linter.unusedVariables false
set_option linter.unusedSimpArgs false

section
variable {α : Type} {P : Program} {E : Env} {B : Nat → Prop} {F : Fz} {g : List GE} {w : World} {H H2 H3 : Hp}
variable {call : (g : FuncId) → List AV → Hp → Option (Ret E g)} {ops : Array Oper}

theorem VR2_bnd {v : AV} {u : Value} (h : VR2 F w g v u) : Bnd g.length v := by
  have own1 : ∀ {v : AV} {u : Value}, VR0 F w g v u → ∀ id ∈ ownIds [v], id < g.length := by
    intro v u h id hid
    cases v with
    | all i s n =>
      obtain ⟨e, A, h1, _⟩ := h
      simp [ownIds] at hid; subst hid
      exact (List.getElem?_eq_some_iff.1 h1).1
    | own i s o n =>
      obtain ⟨e, A, h1, _⟩ := h
      simp [ownIds] at hid; subst hid
      exact (List.getElem?_eq_some_iff.1 h1).1
    | _ => simp [ownIds] at hid
  constructor
  · intro id hid
    cases v with
    | all i s n =>
      obtain ⟨e, A, h1, _⟩ := h
      simp [leafIds] at hid; subst hid
      exact (List.getElem?_eq_some_iff.1 h1).1
    | own i s o n =>
      obtain ⟨e, A, h1, _⟩ := h
      simp [leafIds] at hid; subst hid
      exact (List.getElem?_eq_some_iff.1 h1).1
    | ptr i j =>
      obtain ⟨e, h1, _⟩ := h
      simp [leafIds] at hid; subst hid
      exact (List.getElem?_eq_some_iff.1 h1).1
    | eptr i j k =>
      obtain ⟨e, h1, _⟩ := h
      simp [leafIds] at hid; subst hid
      exact (List.getElem?_eq_some_iff.1 h1).1
    | aptr i s n =>
      obtain ⟨e, h1, _⟩ := h
      simp [leafIds] at hid; subst hid
      exact (List.getElem?_eq_some_iff.1 h1).1
    | slf i =>
      obtain ⟨e, h1, _⟩ := h
      simp [leafIds] at hid; subst hid
      exact (List.getElem?_eq_some_iff.1 h1).1
    | mp i =>
      obtain ⟨e, h1, _⟩ := h
      simp [leafIds] at hid; subst hid
      exact (List.getElem?_eq_some_iff.1 h1).1
    | _ => simp [leafIds] at hid
  · intro id hid
    cases v with
    | agg cs =>
      obtain ⟨vs, _, h⟩ := h
      replace hid : id ∈ ownIds cs := hid
      generalize vs.toList = l at h
      induction h with
      | nil => simp [ownIds] at hid
      | cons h1 t ih =>
        rw [ownIds_cons] at hid
        rcases List.mem_append.1 hid with hid | hid
        · exact own1 h1 id hid
        · exact ih hid
    | tup cs => simp [cellsOf, ownIds] at hid
    | fn f cs => simp [cellsOf, ownIds] at hid
    | all i s n => exact own1 (v := .all i s n) h id hid
    | own i s o n => exact own1 (v := .own i s o n) h id hid
    | _ => simp [cellsOf, ownIds] at hid

theorem edge_iff {j i : Nat} : edge ops j i = true ↔ ∃ o, ops[j]? = some o ∧ ∃ e ∈ o.after, e.on = i ∧ Region.binds .any e = true := by
  unfold edge
  cases h : ops[j]? with
  | none => simp
  | some o =>
    simp only [Option.map_some, Option.getD_some, Array.any_eq_true', Bool.and_eq_true, beq_iff_eq]
    constructor
    · rintro ⟨e, h1, h2, h3⟩; exact ⟨o, rfl, e, h1, h2, h3⟩
    · rintro ⟨o', h0, e, h1, h2, h3⟩; cases h0; exact ⟨e, h1, h2, h3⟩

def Closed (ops : Array Oper) (listed : Array Bool) : Prop := ∀ m, listed.getD m false = true → ∀ i, edge ops m i = true → listed.getD i false = true

theorem predsL_edge {j i : Nat} (h : i ∈ predsL ops j) : edge ops j i = true := by
  unfold predsL at h
  split at h
  · rename_i o ho
    obtain ⟨e, he, rfl⟩ := List.mem_map.1 h
    obtain ⟨h1, h2⟩ := List.mem_filter.1 he
    exact edge_iff.2 ⟨o, ho, e, by simpa using h1, rfl, h2⟩
  · cases h
theorem addNew_mem : ∀ (l acc : List Nat) (x : Nat), x ∈ addNew acc l → x ∈ acc ∨ x ∈ l
  | [], acc, x, h => .inl h
  | i :: r, acc, x, h => by
    simp only [addNew] at h
    rcases addNew_mem r _ x h with h | h
    · split at h
      · exact .inl h
      · rcases List.mem_append.1 h with h | h
        · exact .inl h
        · simp at h; subst h; exact .inr (by simp)
    · exact .inr (by simp [h])
theorem past_listed {listed : Array Bool} (hc : Closed ops listed) : ∀ (n : Nat) (acc : List Nat), (∀ a ∈ acc, listed.getD a false = true) → ∀ i ∈ past ops n acc, listed.getD i false = true
  | 0, acc, h, i, hi => h i hi
  | n + 1, acc, h, i, hi => by
    simp only [past] at hi
    split at hi
    · exact h i hi
    · refine past_listed hc n _ (fun a ha => ?_) i hi
      rcases addNew_mem _ _ a ha with ha | ha
      · exact h a ha
      · obtain ⟨m, hm, hma⟩ := List.mem_flatMap.1 ha
        exact hc m (h m hm) a (predsL_edge hma)
theorem mem_ready {listed : Array Bool} {i : Nat} : i ∈ Region.ready .any ops listed ↔ i < ops.size ∧ listed.getD i true = false ∧ ∀ j, edge ops i j = true → listed.getD j false = true := by
  unfold Region.ready
  simp only [List.mem_filter, List.mem_range, Bool.and_eq_true, Bool.not_eq_true']
  constructor
  · rintro ⟨h1, h2, h3⟩
    refine ⟨h1, h2, fun j hj => ?_⟩
    obtain ⟨o, ho, e, he, rfl, hb⟩ := edge_iff.1 hj
    rw [ho] at h3
    simp only [Option.map_some, Option.getD_some, Array.all_eq_true', Bool.or_eq_true, Bool.not_eq_true'] at h3
    rcases h3 e he with h | h
    · rw [hb] at h; cases h
    · exact h
  · rintro ⟨h1, h2, h3⟩
    refine ⟨h1, h2, ?_⟩
    rw [show ops[i]? = some ops[i] by simp [h1]]
    simp only [Option.map_some, Option.getD_some, Array.all_eq_true', Bool.or_eq_true, Bool.not_eq_true']
    intro e he
    cases hb : Region.binds .any e with
    | false => exact .inl rfl
    | true => exact .inr (h3 e.on (edge_iff.2 ⟨_, by simp [h1], e, he, rfl, hb⟩))

theorem getD_tf {listed : Array Bool} {i : Nat} (h : i < listed.size) (b c : Bool) : listed.getD i b = listed.getD i c := by
  simp [Array.getD, h]
theorem getD_set {listed : Array Bool} {i j : Nat} (h : i < listed.size) (b : Bool) : (listed.setIfInBounds i true).getD j b = if j = i then true else listed.getD j b := by
  by_cases hj : j = i
  · subst hj; simp [Array.getD, h]
  · simp only [Array.getD, hj, if_false]
    simp only [Array.size_setIfInBounds]
    split
    · rename_i h1
      simp only [Array.getInternal_eq_getElem]
      exact Array.getElem_setIfInBounds_ne h1 (Ne.symm hj)
    · rfl

theorem all_range {n : Nat} {p : Nat → Bool} (h : (List.range n).all p = true) {i : Nat} (hi : i < n) : p i = true := List.all_eq_true.1 h i (List.mem_range.2 hi)

theorem ready_nil (hback : backOk ops = true) {listed : Array Bool} (hl : listed.size = ops.size) (h : Region.ready .any ops listed = []) : ∀ i, i < ops.size → listed.getD i true = true := by
  intro i
  induction i using Nat.strongRecOn with
  | ind i ih =>
    intro hi
    cases hb : listed.getD i true with
    | true => rfl
    | false =>
      exfalso
      have : i ∈ Region.ready .any ops listed := by
        refine mem_ready.2 ⟨hi, hb, fun j hj => ?_⟩
        obtain ⟨o, ho, e, he, rfl, hbi⟩ := edge_iff.1 hj
        have := all_range hback hi
        rw [ho] at this
        simp only [Option.map_some, Option.getD_some, Bool.and_eq_true, Array.all_eq_true', Bool.or_eq_true, Bool.not_eq_true'] at this
        rcases this.1 e he with h' | h'
        · rw [hbi] at h'; cases h'
        · have hlt : e.on < i := by simpa [Nat.blt_eq] using h'
          rw [getD_tf (by rw [hl]; omega) false true]
          exact ih _ hlt (by omega)
      rw [h] at this
      cases this

def remOf (ops : Array Oper) (listed : Array Bool) : List Nat := (List.range ops.size).filter fun i => !listed.getD i true
theorem rem_sorted (listed : Array Bool) : (remOf ops listed).Pairwise (· < ·) := List.Pairwise.filter _ List.pairwise_lt_range

theorem filter_split {l1 l2 : List Nat} {i : Nat} (h : (l1 ++ i :: l2).Pairwise (· < ·)) : (l1 ++ i :: l2).filter (fun j => !(j == i)) = l1 ++ l2 := by
  rw [List.pairwise_append] at h
  obtain ⟨h1, h2, h3⟩ := h
  rw [List.pairwise_cons] at h2
  rw [List.filter_append, List.filter_cons]
  simp only [beq_self_eq_true, Bool.not_true, Bool.false_eq_true, if_false]
  congr 1
  · rw [List.filter_eq_self]
    intro a ha
    have := h3 a ha i (by simp)
    simp; omega
  · rw [List.filter_eq_self]
    intro a ha
    have := h2.1 a ha
    simp; omega

theorem rem_step {listed : Array Bool} (hl : listed.size = ops.size) {i : Nat} (hi : i < ops.size) {l1 l2 : List Nat} (h : remOf ops listed = l1 ++ i :: l2) : remOf ops (listed.setIfInBounds i true) = l1 ++ l2 := by
  have hs := rem_sorted (ops := ops) listed
  rw [h] at hs
  rw [← filter_split hs, ← h]
  unfold remOf
  rw [List.filter_filter]
  refine List.filter_congr fun j hj => ?_
  rw [getD_set (by rw [hl]; exact hi)]
  by_cases hji : j = i
  · subst hji; simp
  · simp [hji]

theorem drawn_any (hE : ∀ t, TiOk P E t) (hfi : FiOk P E) (hcall : CallOk P E call) {inl : FI → List AV → Hp → Fin α → Option α} (hinl : InlOk P E B inl) {ro : Ro} (hwvo : ∀ (k : Nat) (o : Oper), ops[k]? = some o → VK ro.2 o) (hwro : ∀ (k : Nat) (o : Oper), ops[k]? = some o → RW ro.1 o) (hd : drawOk E ro ops = true) {K : List AV → Hp → Option α} {x : α} {Q : Exit → Act → World → Prop} :
    ∀ (fuel : Nat) (listed : Array Bool) (ts : List AV) (H : Hp) (a : Act) (w : World) (F : Fz) (g : List GE), listed.size = ops.size → (remOf ops listed).length ≤ fuel → Closed ops listed →
    opsK E call inl ops (remOf ops listed) ts H K = some x → St B F g w H ts a → GlobOk E B F w → RoOk ro.1 ts → VoOk ro.2 ts →
    (∀ ts' H' a' w' F' g', K ts' H' = some x → St B F' g' w' H' ts' a' → GlobOk E B F' w' → Gr B F g w F' g' w' → Q .normal a' w') →
    wpAny P .any ops Q fuel listed a w := by
  have ⟨hback, hpair⟩ := Bool.and_eq_true_iff.1 hd
  intro fuel
  induction fuel with
  | zero =>
    intro listed ts H a w F g hl hf hc h hs hg hro hvo hK
    have hr : remOf ops listed = [] := List.length_eq_zero_iff.1 (by omega)
    rw [hr] at h
    refine ⟨?_, hK ts H a w F g h hs hg (Gr.refl ..)⟩
    rw [List.eq_nil_iff_forall_not_mem]
    intro i hi
    have ⟨h1, h2, _⟩ := mem_ready.1 hi
    have : i ∈ remOf ops listed := List.mem_filter.2 ⟨List.mem_range.2 h1, by rw [h2]; rfl⟩
    rw [hr] at this
    cases this
  | succ fuel ih =>
    intro listed ts H a w F g hl hf hc h hs hg hro hvo hK
    refine ⟨fun hnil => ?_, fun i hi => ?_⟩
    · have hall := ready_nil hback hl hnil
      have hr : remOf ops listed = [] := by
        unfold remOf
        rw [List.filter_eq_nil_iff]
        intro i hi
        rw [hall i (List.mem_range.1 hi)]
        simp
      rw [hr] at h
      exact hK ts H a w F g h hs hg (Gr.refl ..)
    · obtain ⟨hi1, hi2, hi3⟩ := mem_ready.1 hi
      have hmem : i ∈ remOf ops listed := List.mem_filter.2 ⟨List.mem_range.2 hi1, by rw [hi2]; rfl⟩
      obtain ⟨l1, l2, hrem⟩ := List.append_of_mem hmem
      have hsort := rem_sorted (ops := ops) listed
      rw [hrem, List.pairwise_append] at hsort
      have hoi : ops[i]? = some ops[i] := by simp [hi1]
      rw [hrem] at h
      have hap : ∀ k ∈ l1, ∃ ok, ops[k]? = some ok ∧ Apart E ro ops ok ops[i] := by
        intro k hk
        have hlt : k < i := hsort.2.2 k hk i (by simp)
        have hun : listed.getD k true = false := by
          have : k ∈ remOf ops listed := by rw [hrem]; simp [hk]
          simpa using (List.mem_filter.1 this).2
        have hun' : listed.getD k false = false := by rw [getD_tf (by omega) false true]; exact hun
        refine ⟨ops[k]'(by omega), by simp, ?_⟩
        have hp := all_range (all_range hpair hi1) hlt
        rw [hoi, show ops[k]? = some (ops[k]'(by omega)) by simp] at hp
        simp only [Bool.or_eq_true, Bool.and_eq_true] at hp
        rcases hp with hp | ⟨⟨⟨p1, p2⟩, p3⟩, p4, p5⟩
        · exfalso
          unfold aheadOf at hp
          have hin : k ∈ past ops ops.size (predsL ops i) := by simpa using hp
          have := past_listed hc _ _ (fun a ha => hi3 a (predsL_edge ha)) k hin
          rw [hun'] at this; cases this
        · have nl : ∀ (q : Nat) (hq : q < ops.size), nilOp ops[q].op = false := fun q hq => by
            have := all_range hback hq
            rw [show ops[q]? = some ops[q] by simp [hq]] at this
            simp only [Option.map_some, Option.getD_some, Bool.and_eq_true, Bool.not_eq_true'] at this
            exact this.2
          refine ⟨fun d hd => ?_, fun d hd => ?_, fun d hd => ?_, nl k (by omega), nl i hi1, p3, hwro k _ (by simp), hwvo k _ (by simp), by simpa using p4, by simpa using p5⟩
          · rw [hd] at p1
            simp at p1; exact p1.1
          · rw [hd] at p2
            simp at p2; exact p2
          · rw [hd] at p1
            simp at p1; exact p1.2
      have h2 := front hoi l1 ts H hap hro hvo (fun _ y _ => by rw [← hs.heap.len]; exact VR2_bnd (opnd_ok hs hg y)) h
      refine opsK_one hE hfi hcall hinl h2 hs hg fun ts' H' a' w' F' g' k1 k2 k3 k4 k5 k6 => ?_
      have hrem' := rem_step hl hi1 hrem
      refine ih _ ts' H' a' w' F' g' (by simpa using hl) ?_ ?_ (by rw [hrem']; exact k1) k2 k3 ?_ ?_ fun ts'' H'' a'' w'' F'' g'' q1 q2 q3 q4 => hK ts'' H'' a'' w'' F'' g'' q1 q2 q3 (k4.trans q4)
      · rw [hrem'] ; rw [hrem] at hf; simp at hf ⊢; omega
      rotate_left
      · intro s hp
        by_cases hds : ops[i].dst = some s
        · obtain ⟨b, e1, e2⟩ := hwro i _ hoi s hds hp
          obtain ⟨σ, rfl, hσ⟩ := k6 _ hoi (by rw [e1]; intro e; cases e)
          exact hro.put (E := E) (hwro i _ hoi) hσ s hp
        · rw [k5 s fun o ho hd => by rw [hoi] at ho; cases ho; exact hds hd]
          exact hro s hp
      · rintro ⟨s, id⟩ hp
        by_cases hds : ops[i].dst = some s
        · rcases hwvo i _ hoi s hds with hn | ⟨b, e1, e2⟩
          · exact absurd hp (hn id)
          · obtain ⟨σ, rfl, hσ⟩ := k6 _ hoi (by rw [e1]; intro e; cases e)
            exact hvo.put (E := E) (hwvo i _ hoi) hσ (s, id) hp
        · show okB id (ts'.getD s .top) = true
          rw [k5 s fun o ho hd => by rw [hoi] at ho; cases ho; exact hds hd]
          exact hvo (s, id) hp
      · intro m hm j hj
        rw [getD_set (by omega)] at hm ⊢
        split
        · rfl
        · split at hm
          · rename_i hmi; subst hmi; exact hi3 j hj
          · exact hc m hm j hj
end
end Go.Proofs.YtmojilihllhadaaGreatDoor.Ev

