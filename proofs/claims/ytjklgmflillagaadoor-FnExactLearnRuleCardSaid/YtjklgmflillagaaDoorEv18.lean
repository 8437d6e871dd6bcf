/- The operations of a region, one behind the other. -/
import Derived.Test.YtjklgmflillagaaDoorEv17b
import Derived.Orders
namespace Go.Proofs.YtjklgmflillagaaDoor.Ev
open Go Go.RowKit
set_option linter.unusedVariables false
set_option linter.unusedSimpArgs false

section
variable {α : Type} {P : Program} {E : Env} {B : Nat → Prop} {F : Fz} {g : List GE} {w : World} {H : Hp}

theorem asSl_cast {t : Ty} {l : List t.den} : castL? t t l = some l := by simp [castL?]

theorem lendV_ok {v : AV} {u : Value} {ids : List Nat} (hv : VR0 F w g v u) (hH : HR B F w g H) (hi : ∀ i ∈ ownIds [v], i ∈ ids) : VR0 (lendF F g H ids) w [] (lendV H v) u := by
  have hg : Gr B F [] w (lendF F g H ids) [] w := ⟨(lend_gr hH ids).up, (lend_gr hH ids).new, fun _ _ _ _ h => h, fun _ _ h => h, Sam.refl _ _⟩
  cases v with
  | all id sz n =>
    simp only [lendV]
    split
    · rename_i t l s hb
      have := asSl_ok (t := t) (l := l) (by simp [asSl, hb, asSl_cast]) hv hH
      exact CR_lend hi this
    · trivial
  | own id sz off n =>
    simp only [lendV]
    split
    · rename_i t l s hb
      have := asSl_ok (t := t) (l := (l.drop off).take n) (by simp [asSl, hb, asSl_cast]) hv hH
      exact CR_lend hi this
    · trivial
  | ptr => trivial
  | eptr => trivial
  | aptr => trivial
  | sl t l => exact CR_gr hg hv
  | rptr t l i j => exact VR0_gr (x := .rptr t l i j) hg hv
  | _ => exact hv
theorem capV_ok {v : AV} {u : Value} {ids : List Nat} (hv : VR0 F w g v u) (hH : HR B F w g H) : VR0 (lendF F g H ids) w [] (capV v) u := by
  have hg : Gr B F [] w (lendF F g H ids) [] w := ⟨(lend_gr hH ids).up, (lend_gr hH ids).new, fun _ _ _ _ h => h, fun _ _ h => h, Sam.refl _ _⟩
  cases v with
  | all => trivial
  | own => trivial
  | ptr => trivial
  | eptr => trivial
  | aptr => trivial
  | sl t l => exact CR_gr hg hv
  | rptr t l i j => exact VR0_gr (x := .rptr t l i j) hg hv
  | _ => exact hv
theorem lendArg_ok {v : AV} {u : Value} {ids : List Nat} (hv : VR2 F w g v u) (hH : HR B F w g H) (hi : ∀ i ∈ ownIds (cellsOf v), i ∈ ids) : VR2 (lendF F g H ids) w [] (lendArg H v) u := by
  cases v with
  | agg cs =>
    obtain ⟨vs, rfl, hc⟩ := hv
    refine ⟨vs, rfl, ?_⟩
    replace hi : ∀ i ∈ ownIds cs, i ∈ ids := hi
    generalize vs.toList = m at hc
    induction hc with
    | nil => exact .nil
    | cons h t ih =>
      rename_i a b l m'
      rw [ownIds_cons] at hi
      exact .cons (lendV_ok h hH fun i h' => hi i (List.mem_append_left _ h')) (ih fun i h' => hi i (List.mem_append_right _ h'))
  | fn f cs =>
    obtain ⟨vs, rfl, hc⟩ := hv
    refine ⟨vs, rfl, ?_⟩
    clear hi
    generalize vs.toList = m at hc
    induction hc with
    | nil => exact .nil
    | cons h t ih => exact .cons (capV_ok h hH) ih
  | tup cs => trivial
  | _ => refine VR0_2 (lendV_ok (g := g) ?_ hH hi); exact hv

/-- What the functions' table says of the program. -/
def xtFn : XT → Array Value → Sem Value
  | .count => Extern.BytealgCount.count
  | .indexByte => Extern.BytealgIndexByte.indexByte
  | .compare => Extern.BytealgCompare.compare
  | _ => fun _ => stuck ""
/-- a contract by hand -/
def XtSem (P : Program) (f : FuncId) (x : XT) : Prop := ∀ args H σ H' B F g w (vs : Array Value), extK x args H (fun v H => some (v, H)) = some (σ, H') → All2 (VR2 F w g) args vs.toList → HR B F w g H → Bs B w →
  Calls P f vs w fun e w' => ∃ v F' g', e = .returned v ∧ VR2 F' w' g' σ v ∧ Gr B F g w F' g' w' ∧ HR B F' w' g' H'
structure XtOne (P : Program) (f : FuncId) (x : XT) : Prop where
  fn : x.model = true → ∃ fn, P.funcs[f]? = some fn ∧ fn.body.isNone = true ∧ (fn.name == "runtime.NumGoroutine") = false ∧ Extern.findNext fn = none ∧ Extern.find fn = some (xtFn x)
  by_hand : x.model = false → (∃ fn, P.funcs[f]? = some fn ∧ fn.body.isSome = true ∧ (fn.name == "runtime.NumGoroutine") = false) ∧ XtSem P f x
theorem cond_bindX {α β : Type} {c : Bool} {A : Option α} {f : α → Option β} : (cond c A none).bind f = cond c (A.bind f) none := by cases c <;> rfl
theorem extK_nat {β : Type} {x : XT} {args : List AV} {K : AV → Hp → Option α} {f : α → Option β} : (extK x args H K).bind f = extK x args H (fun v H => (K v H).bind f) := by
  unfold extK
  split
  · rfl
  · rfl
  · rfl
  · split
    · unfold insertK
      split
      · split
        · split
          · exact cond_bindX
          · rfl
        · rfl
      · rfl
    · rfl
  · rfl
theorem extK_S {x : XT} {args : List AV} {K : AV → Hp → Option α} {r : α} (h : extK x args H K = some r) : ∃ σ H', extK x args H (fun v H => some (v, H)) = some (σ, H') ∧ K σ H' = some r := by
  have := extK_nat (H := H) (x := x) (args := args) (K := fun v H => some (v, H)) (f := fun p => K p.1 p.2)
  simp only [Option.bind_some] at this
  rw [← this] at h
  cases hh : extK x args H (fun v H => some (v, H)) with
  | none => rw [hh] at h; cases h
  | some p => rw [hh] at h; exact ⟨p.1, p.2, rfl, h⟩
def FiOk (P : Program) (E : Env) : Prop := (∀ f fi, E.fi f = some fi → P.funcs[f]? = some fi.fn ∧ fi.fn.body.isSome = true ∧ (fi.fn.name == "runtime.NumGoroutine") = false) ∧
  ∀ f x, E.xt f = some x → XtOne P f x
theorem extK_ok {x : XT} {args : List AV} {vs : List Value} {K : AV → Hp → Option α} {r : α} (hm : x.model = true) (h : extK x args H K = some r) (ha : All2 (VR2 F w g) args vs) :
    ∃ σ v, K σ H = some r ∧ (xtFn x vs.toArray).run P w = .ok v w ∧ VR2 F w g σ v := by
  unfold extK at h
  split at h
  · cases ha with
    | cons h1 ha =>
      cases ha with
      | cons h2 ha =>
        cases ha
        have h1 : _ = Value.string _ := h1
        have h2 : _ = Value.int _ _ := h2
        subst h1 h2
        refine ⟨_, _, h, ?_, rfl⟩
        simp only [xtFn]
        exact Go.Lib.run_countString _ _ w
  · cases ha with
    | cons h1 ha =>
      cases ha with
      | cons h2 ha =>
        cases ha
        have h1 : _ = Value.string _ := h1
        have h2 : _ = Value.int _ _ := h2
        subst h1 h2
        refine ⟨_, _, h, ?_, rfl⟩
        simp only [xtFn]
        exact Go.Lib.run_indexByteString _ _ w
  · cases ha with
    | cons h1 ha =>
      cases ha with
      | cons h2 ha =>
        cases ha
        have h1 : _ = Value.string _ := h1
        have h2 : _ = Value.string _ := h2
        subst h1 h2
        refine ⟨_, _, h, ?_, rfl⟩
        simp only [xtFn]
        exact Go.Lib.run_compareString _ _ w
  · cases hm
  · cases h
theorem run_ext {o : Oper} {c : Call} {f : Operand} {ρc : Operand → Value} {k : FuncId} {x : XT} {v : Value} (hx : XtOne P k x) (hm : x.model = true) (ho : o.op = .call c) (hc : c.callee = .value f) (hf : ρc f = .func (.func k) #[] #[])
    (hr : (xtFn x (c.args.map ρc)).run P w = .ok v w) : (execOp ρc o).run P w = .ok (.value v) w := by
  obtain ⟨fn, h1, h2, h3, h4, h5⟩ := hx.fn hm
  have hm : ∀ (m : Mark) (k : Sem Next), (do mark m; k : Sem Next).run P w = k.run P w := fun _ _ => rfl
  simp only [execOp, ho, resolve, hc, hf, Deferred.ofValue, Sem.run_bind, Sem.run_pure, Result.andThen, invoke, callFunc, program, Sem.run, h1, h2, h3, h4, h5, Bool.false_eq_true, if_false, if_true, Array.empty_append, Array.append_empty, mark, hr]

def CallOk (P : Program) (E : Env) (call : (g : FuncId) → List AV → Hp → Option (Ret E g)) : Prop :=
  ∀ f fi args H x B F g w (vs : Array Value), E.fi f = some fi → call f args H = some x → All2 (VR2 F w g) args vs.toList → HR B F w g H → Bs B w → GlobOk E F w →
    Calls P f vs w fun e w' => ∃ v, e = .returned v ∧ RetOk B fi.own (rtsOf E f) (backOf E f) F g w w' x v
theorem HR_nil {F : Fz} {w : World} (hF : ∀ b o, F b o → b < w.heap.size) : HR (Old w) F w [] [] :=
  ⟨rfl, fun i b e hb => by simp at hb, fun i b e hb => by simp at hb, fun i j b c e f hb => by simp at hb, fun k o hk => ⟨hF k o hk, fun i b e hb => by simp at hb⟩⟩
theorem GlobOk.any {E : Env} {F : Fz} {w : World} {B : Nat → Prop} {g g' : List GE} {F' : Fz} {w' : World} (h : GlobOk E F w) (k : Gr B F g w F' g' w') : GlobOk E F' w' := h.gr k

def InlOk (P : Program) (E : Env) (B : Nat → Prop) (inl : FI → List AV → Hp → Fin α → Option α) : Prop :=
  ∀ f fi args H (K : Fin α) x F g w (vs : Array Value), E.fi f = some fi → inl fi args H K = some x → All2 (VR2 F w g) args vs.toList → HR B F w g H → Bs B w → GlobOk E F w →
    Calls P f vs w fun e w' => ∃ v σ H' F' g', e = .returned v ∧ K σ H' = some x ∧ VR2 F' w' g' σ v ∧ Gr B F g w F' g' w' ∧ HR B F' w' g' H'

theorem run_call {o : Oper} {c : Call} {f : Operand} {ρc : Operand → Value} {k : FuncId} {caps : Array Value} {fn : Func} (ho : o.op = .call c) (hc : c.callee = .value f) (hf : ρc f = .func (.func k) #[] caps)
    (h1 : P.funcs[k]? = some fn) (h2 : fn.body.isSome = true) (h3 : (fn.name == "runtime.NumGoroutine") = false) : (execOp ρc o).run P w = .ok (.enter k (c.args.map ρc ++ caps)) w := by
  have hb : fn.body.isNone = false := by cases h : fn.body <;> simp_all
  simp only [execOp, ho, resolve, hc, hf, Deferred.ofValue, Sem.run_bind, Sem.run_pure, Result.andThen, invoke, callFunc, program, Sem.run, h1, h3, hb, Bool.false_eq_true, if_false, Array.empty_append]
theorem run_builtin {o : Oper} {c : Call} {b : Builtin} {ρc : Operand → Value} (ho : o.op = .call c) (hc : c.callee = .builtin b) :
    (execOp ρc o).run P w = (builtin b c.argTypes o.type (c.args.map fun | .const _ => true | _ => false) (c.args.map ρc)).run P w := by
  simp only [execOp, ho, resolve, hc, Sem.run_bind, Sem.run_pure, Result.andThen, invoke]
  rfl

theorem args_ok {ts : List AV} {a : Act} (hs : St B F g w H ts a) (hg : GlobOk E F w) : ∀ l : List Operand, All2 (VR2 F w g) (l.map (opnd E ts)) (l.map a.eval)
  | [] => .nil
  | y :: l => .cons (opnd_ok hs hg y) (args_ok hs hg l)

theorem guard_ok {ops : Array Oper} {ts : List AV} {a : Act} {o : Oper} {yes no : Option α} {x : α} (h : guardOf ops ts o yes no = some x) (hs : St B F g w H ts a) :
    (yes = some x ∧ Region.wanted o (yielded ops a.tmps) = true) ∨ (no = some x ∧ Region.wanted o (yielded ops a.tmps) = false) := by
  unfold guardOf at h
  split at h
  · rename_i hg
    exact .inl ⟨h, by simp [Region.wanted, hg]⟩
  · rename_i j want hg
    split at h
    · rename_i d hd
      have hget : ∀ v, ts.getD d .top = v → v ≠ .top → ∃ u, a.tmps[d]? = some u ∧ VR2 F w g v u := by
        intro v hv hne
        cases ht : ts[d]? with
        | none => simp [List.getD, ht] at hv; exact absurd hv.symm hne
        | some y =>
          simp [List.getD, ht] at hv
          subst hv
          obtain ⟨u, hu, hy⟩ := hs.tmps.get d y ht
          exact ⟨u, by simpa using hu, hy⟩
      split at h
      · rename_i b hb
        obtain ⟨u, hu, hy⟩ := hget _ hb (by simp)
        have hy : u = .bool b := hy
        subst hy
        have hyi : yielded ops a.tmps j = some b := by simp [yielded, hd, hu]
        cases hbw : (b == want) with
        | true =>
          rw [hbw] at h
          exact .inl ⟨h, by simp only [Region.wanted, hg, hyi]; simpa using hbw⟩
        | false =>
          rw [hbw] at h
          exact .inr ⟨h, by simp only [Region.wanted, hg, hyi]; simpa using hbw⟩
      · rename_i z hb
        obtain ⟨u, hu, hy⟩ := hget _ hb (by simp)
        have hy : u = .tuple z := hy
        subst hy
        have hyi : yielded ops a.tmps j = none := by simp [yielded, hd, hu]
        exact .inr ⟨h, by simp [Region.wanted, hg, hyi]⟩
      · cases h
    · cases h

theorem addNew_len : ∀ (l acc : List Nat), (addNew acc l).length ≤ acc.length + l.length
  | [], acc => by simp [addNew]
  | i :: l, acc => by
    simp only [addNew]
    refine Nat.le_trans (addNew_len l _) ?_
    split <;> simp <;> omega
theorem addNew_nodup2 : ∀ (l acc : List Nat), (addNew acc l).length = acc.length + l.length → acc.Nodup → (acc ++ l).Nodup
  | [], acc, _, ha => by simpa using ha
  | i :: r, acc, h, ha => by
    simp only [addNew] at h
    cases hc : acc.contains i with
    | true =>
      rw [hc] at h
      have := addNew_len r acc
      simp only [List.length_cons] at h
      omega
    | false =>
      rw [hc] at h
      simp only [] at h
      have hni : i ∉ acc := by simpa using hc
      have ha' : (acc ++ [i]).Nodup := by
        rw [List.nodup_append]
        exact ⟨ha, by simp, fun a ha b hb => by simp at hb; subst hb; rintro rfl; exact hni ha⟩
      have := addNew_nodup2 r (acc ++ [i]) (by simp only [List.length_append, List.length_cons, List.length_nil] at h ⊢; omega) ha'
      simpa using this
theorem addNew_len_nodup {l : List Nat} (h : l.length = (addNew [] l).length) : l.Nodup := by
  have := addNew_nodup2 l [] (by simpa using h.symm) (by simp)
  simpa using this

theorem guardS_eq {ops : Array Oper} {ts : List AV} {o : Oper} {yes no : List AV → Option α} : guardS ops ts o yes no = guardOf ops ts o (yes ts) (no ts) := by
  unfold guardS guardOf
  split
  · rfl
  · rename_i j want _
    split
    · rename_i d _
      split
      · rename_i b hb
        have hs : ts.set d (.bool b) = ts := by
          apply List.ext_getElem?
          intro k
          by_cases hk : d = k
          · subst hk
            cases h : ts[d]? with
            | none => simp [List.getD, h] at hb
            | some y =>
              simp [List.getD, h] at hb
              subst hb
              rw [List.getElem?_set]
              have := (List.getElem?_eq_some_iff.1 h).1
              simp [this]
          · rw [List.getElem?_set_ne hk]
        cases b <;> cases want <;> simp only [beq_self_eq_true, cond_true, cond_false, Bool.not_true, Bool.not_false, hs] <;> rfl
      · rfl
      · rfl
    · rfl

theorem opsK_one (hE : ∀ t, TiOk P E t) (hfi : FiOk P E) {call : (g : FuncId) → List AV → Hp → Option (Ret E g)} (hcall : CallOk P E call) {inl : FI → List AV → Hp → Fin α → Option α} (hinl : InlOk P E B inl)
    {ops : Array Oper} {K : List AV → Hp → Option α} {x : α} {Post : Act → World → Prop} {Q : Exit → Act → World → Prop} {i : Nat} {r : List Nat} {ts : List AV} {a : Act}
    (h : opsK E call inl ops (i :: r) ts H K = some x) (hs : St B F g w H ts a) (hg : GlobOk E F w)
    (hK : ∀ ts' H' a' w' F' g', opsK E call inl ops r ts' H' K = some x → St B F' g' w' H' ts' a' → GlobOk E F' w' → Gr B F g w F' g' w' → Post a' w') :
    wpOp P ops Q i Post a w := by
    unfold wpOp
    simp only [opsK, guardS_eq] at h
    split at h
    · rename_i ho
      simp only [ho]
      exact hK ts H a w F g h hs hg (Gr.refl ..)
    · rename_i o ho
      simp only [ho]
      have hnext : ∀ {σ : AV} {H' : Hp} {v : Value} {w' : World} {F' : Fz} {g' : List GE}, opsK E call inl ops r (put ts o.dst σ) H' K = some x → VR2 F' w' g' σ v → Gr B F g w F' g' w' → HR B F' w' g' H' →
          Post (a.put o.dst v) w' := fun h1 h2 h3 h4 => hK _ _ _ _ _ _ h1 (put_ok hs h3 h4 h2) (hg.gr h3) h3
      rcases guard_ok h hs with ⟨h, hw⟩ | ⟨h, hw⟩
      · rw [if_pos hw]
        refine .inl ?_
        unfold Oper.wp
        have hop : ∀ {r' : Result Next} {Q' : AV → Hp → Prop}, r' = (execOp a.eval o).run P w → (∀ σ H', Q' σ H' → opsK E call inl ops r (put ts o.dst σ) H' K = some x) → OpOk B F g w r' Q' →
            Oper.upon P o a Post Q ((execOp a.eval o).run P w) := by
          rintro r' Q' rfl hQ ⟨σ, H', v, w', F', g', k1, k2, k3, k4, k5⟩
          rcases k2 with k2 | ⟨k2, rfl⟩
          · rw [k2]; exact hnext (hQ _ _ k1) k3 k4 k5
          · rw [k2]; exact hnext (hQ _ _ k1) k3 k4 k5
        cases hoo : o.op with
        | call c =>
          simp only [hoo] at h
          cases hcc : c.callee with
          | builtin b =>
            simp only [hcc] at h
            have := builtinK_ok (ty := o.type) (cs := c.args.map fun | .const _ => true | _ => false) hE h (args_ok (E := E) hs hg c.args.toList) hs.heap hs.base
            rw [show (c.args.toList.map a.eval).toArray = c.args.map a.eval by rw [← Array.toList_map, Array.toArray_toList]] at this
            exact hop (run_builtin hoo hcc).symm (fun _ _ h => h) this
          | value f =>
            simp only [hcc] at h
            split at h
            · rename_i k caps hfv
              have hfo := opnd_ok hs hg f
              rw [hfv] at hfo
              obtain ⟨vcaps, hfe, hcaps⟩ := hfo
              split at h
              · rename_i gi hgi
                obtain ⟨f1, f2, f3⟩ := hfi.1 k gi hgi
                rw [run_call hoo hcc hfe f1 f2 f3]
                show Calls P k _ w _
                have hargs := args_ok (E := E) hs hg c.args.toList
                split at h
                · -- taken in
                  have hall : All2 (VR2 F w g) (c.args.toList.map (opnd E ts) ++ caps) (c.args.map a.eval ++ vcaps).toList := by
                    simp only [Array.toList_append, Array.toList_map]
                    exact hargs.append (hcaps.mono fun _ _ => VR0_2)
                  refine (hinl k gi _ H _ x F g w _ hgi h hall hs.heap hs.base hg).mono ?_
                  rintro e w' ⟨v, σ, H', F', g', rfl, k1, k2, k3, k4⟩
                  exact hnext k1 k2 k3 k4
                · have hids : ∀ v ∈ c.args.toList.map (opnd E ts), ∀ i ∈ ownIds (cellsOf v), i ∈ (c.args.toList.map (opnd E ts)).flatMap fun v => ownIds (cellsOf v) := fun v hv i hi => List.mem_flatMap.2 ⟨v, hv, hi⟩
                  split at h
                  · split at h
                    · rename_i hcond
                      simp only [Bool.and_eq_true] at hcond
                      cases hbind : call k ((c.args.toList.map (opnd E ts)).map (lendArg H)) [] with
                      | none => rw [hbind] at h; cases h
                      | some y =>
                        rw [hbind] at h
                        have hv0 : vcaps = #[] := by
                          cases hh : vcaps.toList with
                          | nil => exact Array.toList_eq_nil_iff.1 hh
                          | cons p q => rw [hh] at hcaps; cases hcaps
                        have hall : All2 (VR2 (lendF F g H ((c.args.toList.map (opnd E ts)).flatMap fun v => ownIds (cellsOf v))) w []) ((c.args.toList.map (opnd E ts)).map (lendArg H)) (c.args.map a.eval ++ vcaps).toList := by
                          subst hv0
                          simp only [Array.append_empty, Array.toList_map]
                          generalize c.args.toList.map (opnd E ts) = l1 at hargs hids
                          generalize c.args.toList.map a.eval = l2 at hargs
                          generalize hidd : (l1.flatMap fun v => ownIds (cellsOf v)) = ids at hids
                          clear hidd
                          induction hargs with
                          | nil => exact .nil
                          | cons h1 t ih => exact .cons (lendArg_ok h1 hs.heap (hids _ (by simp))) (ih fun v hv => hids v (by simp [hv]))
                        have hH1 := lend_HR hs.heap ((c.args.toList.map (opnd E ts)).flatMap fun v => ownIds (cellsOf v))
                        refine (hcall k gi _ [] y (Old w) _ [] w _ hgi hbind hall (HR_nil fun b o hb => (hH1.frz b o hb).1) (Old.base w) (hg.gr (lend_gr hs.heap _))).mono ?_
                        rintro e w' ⟨v, rfl, hret⟩
                        obtain ⟨F', g', k1, k2, k3⟩ := call_back hs.heap hs.base (hret.zero hcond.2)
                        exact hnext h k3 k1 k2
                    · cases h
                  · split at h
                    · rename_i hcond
                      unfold takeOk at hcond
                      simp only [Bool.and_eq_true] at hcond
                      obtain ⟨⟨hc1, hc2⟩, hc3⟩ := hcond
                      have hnd := addNew_len_nodup (Nat.eq_of_beq_eq_true hc2)
                      have hfr : ∀ i ∈ takeIds (c.args.toList.map (opnd E ts)), ∃ t l, H[i]? = some (.arr t l false) := fun i hi => freeArr_iff (List.all_eq_true.1 hc1 i hi)
                      have hbl : backOf E k = [] ∨ (takeIds (c.args.toList.map (opnd E ts))).length = (backOf E k).length := by
                        split at hc3
                        · rename_i hb; exact .inl hb
                        · exact .inr (Nat.eq_of_beq_eq_true hc3)
                      cases hbind : call k ((c.args.toList.map (opnd E ts)).map (takeArg H (takeIds (c.args.toList.map (opnd E ts))))) (pickH H (takeIds (c.args.toList.map (opnd E ts)))) with
                      | none => rw [hbind] at h; cases h
                      | some y =>
                        rw [hbind] at h
                        have hv0 : vcaps = #[] := by
                          cases hh : vcaps.toList with
                          | nil => exact Array.toList_eq_nil_iff.1 hh
                          | cons p q => rw [hh] at hcaps; cases hcaps
                        have hall : All2 (VR2 F w (reG g (takeIds (c.args.toList.map (opnd E ts))))) ((c.args.toList.map (opnd E ts)).map (takeArg H (takeIds (c.args.toList.map (opnd E ts))))) (c.args.map a.eval ++ vcaps).toList := by
                          subst hv0
                          simp only [Array.append_empty, Array.toList_map]
                          generalize takeIds (c.args.toList.map (opnd E ts)) = ids
                          generalize c.args.toList.map (opnd E ts) = l1 at hargs
                          generalize c.args.toList.map a.eval = l2 at hargs
                          clear hids
                          induction hargs with
                          | nil => exact .nil
                          | cons h1 t ih => exact .cons (takeArg_ok hs.heap h1) ih
                        refine (hcall k gi _ _ y _ _ _ w _ hgi hbind hall (take_HR hs.heap hnd) (KK_base hs.heap hs.base _) hg).mono ?_
                        rintro e w' ⟨v, rfl, hret⟩
                        obtain ⟨F', g', k1, k2, k3⟩ := call_backT hs.heap hnd hfr hbl hret
                        exact hnext h k3 k1 k2
                    · cases h
              · split at h
                · rename_i x hx
                  have hv0 : vcaps = #[] := by
                    cases hh : vcaps.toList with
                    | nil => exact Array.toList_eq_nil_iff.1 hh
                    | cons p q => rw [hh] at hcaps; cases hcaps
                  subst hv0
                  cases hm : x.model with
                  | true =>
                    obtain ⟨σ, v, q1, q2, q3⟩ := extK_ok (P := P) hm h (args_ok (E := E) hs hg c.args.toList)
                    rw [show (c.args.toList.map a.eval).toArray = c.args.map a.eval by rw [← Array.toList_map, Array.toArray_toList]] at q2
                    rw [run_ext (hfi.2 k x hx) hm hoo hcc hfe q2]
                    exact hnext q1 q3 (Gr.refl ..) hs.heap
                  | false =>
                    obtain ⟨⟨fn, f1, f2, f3⟩, hsem⟩ := (hfi.2 k x hx).by_hand hm
                    obtain ⟨σ, H', q1, q2⟩ := extK_S h
                    rw [run_call hoo hcc hfe f1 f2 f3]
                    show Calls P k _ w _
                    have hargs := args_ok (E := E) hs hg c.args.toList
                    have hall : All2 (VR2 F w g) (c.args.toList.map (opnd E ts)) (c.args.map a.eval ++ #[]).toList := by
                      simp only [Array.append_empty, Array.toList_map]
                      exact hargs
                    refine (hsem _ _ _ _ B F g w _ q1 hall hs.heap hs.base).mono ?_
                    rintro e w' ⟨v, F', g', rfl, k2, k3, k4⟩
                    exact hnext q2 k2 k3 k4
                · cases h
            · cases h
          | invoke r m => simp only [hcc] at h; cases h
        | _ =>
          simp only [hoo] at h
          rw [← hoo] at h
          exact hop rfl (fun _ _ h => h) (opK_ok hE h (fun y _ => opnd_ok hs hg y) hs.heap hs.base (fun _ => rfl))
      · rw [if_neg (by rw [hw]; simp)]
        exact hnext h rfl (Gr.refl ..) hs.heap

theorem opsK_ok (hE : ∀ t, TiOk P E t) (hfi : FiOk P E) {call : (g : FuncId) → List AV → Hp → Option (Ret E g)} (hcall : CallOk P E call) {inl : FI → List AV → Hp → Fin α → Option α} (hinl : InlOk P E B inl)
    {ops : Array Oper} {K : List AV → Hp → Option α} {x : α} {Post : Act → World → Prop} : ∀ (l : List Nat) (ts : List AV) (H : Hp) (a : Act) (w : World) (F : Fz) (g : List GE),
    opsK E call inl ops l ts H K = some x → St B F g w H ts a → GlobOk E F w →
    (∀ ts' H' a' w' F' g', K ts' H' = some x → St B F' g' w' H' ts' a' → GlobOk E F' w' → Gr B F g w F' g' w' → Post a' w') →
    wpOps P ops (fun e a w => e = .normal ∧ Post a w) l a w
  | [], ts, H, a, w, F, g, h, hs, hg, hK => ⟨rfl, hK ts H a w F g h hs hg (Gr.refl ..)⟩
  | i :: r, ts, H, a, w, F, g, h, hs, hg, hK => by
    rw [wpOps_cons]
    exact opsK_one hE hfi hcall hinl h hs hg fun ts' H' a' w' F' g' h1 h2 h3 h4 => opsK_ok hE hfi hcall hinl r ts' H' a' w' F' g' h1 h2 h3
      fun ts'' H'' a'' w'' F'' g'' k1 k2 k3 k4 => hK ts'' H'' a'' w'' F'' g'' k1 k2 k3 (h4.trans k4)
end
end Go.Proofs.YtjklgmflillagaaDoor.Ev
