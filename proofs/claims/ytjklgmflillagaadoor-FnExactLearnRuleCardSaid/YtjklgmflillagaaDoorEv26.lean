/- One operation, calls too, told without what comes behind it. -/
import Derived.Test.YtjklgmflillagaaDoorEv18
import Derived.Test.YtjklgmflillagaaDoorEv25
namespace Go.Proofs.YtjklgmflillagaaDoor.Ev
open Go Go.RowKit
set_option linter.unusedVariables false
set_option linter.unusedSimpArgs false

section
variable {α : Type} {P : Program} {E : Env} {B : Nat → Prop} {F : Fz} {g : List GE} {w : World} {H : Hp}

noncomputable def opStep (E : Env) (call : (g : FuncId) → List AV → Hp → Option (Ret E g)) (o : Oper) (ts : List AV) (H : Hp) : Option (AV × Hp) :=
  match o.op with
  | .call c => match c.callee with
    | .builtin b => builtinK E b c.argTypes (c.args.toList.map (opnd E ts)) H fun v H => some (v, H)
    | .value f => match opnd E ts f with
      | .fn k caps => match E.fi k with
        | some gi => match gi.inl with
          | true => none
          | false => match gi.take with
            | false => match caps, argsOk H (c.args.toList.map (opnd E ts)) && (backOf E k).isEmpty with
              | [], true => (call k ((c.args.toList.map (opnd E ts)).map (lendArg H)) []).bind fun x =>
                some (one (retVals gi.own (rtsOf E k) (rFst (rtsOf E k) (backOf E k) x) H.length).1, afterCall gi.own (rtsOf E k) (c.args.toList.map (opnd E ts)) H ++ (retVals gi.own (rtsOf E k) (rFst (rtsOf E k) (backOf E k) x) H.length).2)
              | _, _ => none
            | true => match caps, takeOk H (takeIds (c.args.toList.map (opnd E ts))) (backOf E k) with
              | [], true => (call k ((c.args.toList.map (opnd E ts)).map (takeArg H (takeIds (c.args.toList.map (opnd E ts))))) (pickH H (takeIds (c.args.toList.map (opnd E ts))))).bind fun x =>
                some (one (retVals gi.own (rtsOf E k) (rFst (rtsOf E k) (backOf E k) x) H.length).1, setBack H (takeIds (c.args.toList.map (opnd E ts))) (backBlks (backOf E k) (rSnd (rtsOf E k) (backOf E k) x)) ++ (retVals gi.own (rtsOf E k) (rFst (rtsOf E k) (backOf E k) x) H.length).2)
              | _, _ => none
        | none => match E.xt k, caps with
          | some x, [] => extK x (c.args.toList.map (opnd E ts)) H fun v H => some (v, H)
          | _, _ => none
      | _ => none
    | _ => none
  | op => opK E op (opnd E ts) H fun v H => some (v, H)

/-- a walk with no callee taken in, told by its steps -/
theorem opsK_step {call : (g : FuncId) → List AV → Hp → Option (Ret E g)} {ops : Array Oper} {i : Nat} {r : List Nat} {ts : List AV} {K : List AV → Hp → Option α} {o : Oper} (ho : ops[i]? = some o) (hn : nilOp o.op = false) :
    opsK E call (fun _ _ _ _ => none) ops (i :: r) ts H K = guardOf ops ts o
      ((opStep E call o ts H).bind fun p => opsK E call (fun _ _ _ _ => none) ops r (put ts o.dst p.1) p.2 K)
      (opsK E call (fun _ _ _ _ => none) ops r (put ts o.dst (.raw undef)) H K) := by
  simp only [opsK, ho, guardS_eq]
  congr 1
  unfold opStep
  cases hop : o.op with
  | call c =>
    simp only []
    cases hc : c.callee with
    | builtin b => simp only []; rw [builtinK_nat]; rfl
    | value f =>
      simp only []
      cases hf : opnd E ts f with
      | fn k caps =>
        simp only []
        cases hg : E.fi k with
        | none =>
          simp only []
          cases E.xt k with
          | none => rfl
          | some x =>
            cases caps with
            | nil => simp only []; rw [extK_nat]; rfl
            | cons a b => rfl
        | some gi =>
          cases hi : gi.inl with
          | true => simp only [hi]; rfl
          | false =>
            cases caps with
            | nil =>
              simp only [hi]
              cases gi.take with
              | false =>
                simp only []
                cases argsOk H (c.args.toList.map (opnd E ts)) && (backOf E k).isEmpty with
                | true => simp only []; rw [Option.bind_assoc]; rfl
                | false => rfl
              | true =>
                simp only []
                cases takeOk H (takeIds (c.args.toList.map (opnd E ts))) (backOf E k) with
                | true => simp only []; rw [Option.bind_assoc]; rfl
                | false => rfl
            | cons a b => simp only [hi]; cases gi.take <;> rfl
      | _ => rfl
    | invoke a b => rfl
  | _ => simp only []; rw [opK_nat (by rw [hop] at hn; exact hn)]; rfl

end
end Go.Proofs.YtjklgmflillagaaDoor.Ev
