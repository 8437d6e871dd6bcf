/- The evaluator's tables hold of the program: a check that the kernel runs. -/
import Derived.Test.YtjklgmflillagaaDoorEv24
import Derived.ChangeKeysEq
namespace Go.Proofs.YtjklgmflillagaaDoor.Ev
open Go Go.RowKit
set_option linter.unusedVariables false
set_option linter.unusedSimpArgs false

def aggB (P : Program) (t : TypeId) : Option Bool := match P.underlying t with
  | some (.struct _) | some (.array _ _) => some true
  | some _ => some false
  | none => none
theorem aggB_ok {P : Program} {t : TypeId} {b : Bool} (h : aggB P t = some b) : (isAgg t).run P = fun w => .ok b w := by
  funext w
  unfold aggB at h
  cases hu : P.underlying t with
  | none => rw [hu] at h; cases h
  | some d =>
    unfold isAgg
    simp only [Sem.run_bind, run_underlying hu, Result.andThen]
    rw [hu] at h
    cases d <;> (cases h; rfl)

def z1 : AV → Value → Bool
  | .int k x, .int k' y => decide (k = k') && decide (x = y)
  | .bool b, .bool c => b == c
  | .str s, .string s' => s.data.toList.isEmpty && s'.data.toList.isEmpty
  | .emp, .slice none 0 0 => true
  | .raw (.pointer none), .pointer none => true
  | .raw .nilFunc, .nilFunc => true
  | .raw .nilIface, .nilIface => true
  | .top, _ => true
  | _, _ => false
theorem emptyBA {s s' : ByteArray} (h : (s.data.toList.isEmpty && s'.data.toList.isEmpty) = true) : s = s' := by
  simp only [Bool.and_eq_true, List.isEmpty_iff] at h
  have h1 : s.data = #[] := Array.toList_eq_nil_iff.1 h.1
  have h2 : s'.data = #[] := Array.toList_eq_nil_iff.1 h.2
  exact ByteArray.ext (by rw [h1, h2])
theorem z1_ok {F : Fz} {w : World} {g : List GE} {v : AV} {u : Value} (h : z1 v u = true) : VR0 F w g v u := by
  unfold z1 at h
  split at h
  · simp only [Bool.and_eq_true, decide_eq_true_eq] at h
    obtain ⟨rfl, rfl⟩ := h
    rfl
  · rw [beq_iff_eq] at h; subst h; rfl
  · have := emptyBA h; subst this; rfl
  · exact ⟨none, rfl⟩
  · rfl
  · rfl
  · rfl
  · trivial
  · cases h
def zB : List AV → List Value → Bool
  | [], [] => true
  | v :: l, u :: m => z1 v u && zB l m
  | _, _ => false
theorem zB_ok {F : Fz} {w : World} {g : List GE} : ∀ {l : List AV} {m : List Value}, zB l m = true → All2 (VR0 F w g) l m
  | [], [], _ => .nil
  | [], _ :: _, h => by cases h
  | _ :: _, [], h => by cases h
  | v :: l, u :: m, h => by
    simp only [zB, Bool.and_eq_true] at h
    exact .cons (z1_ok h.1) (zB_ok h.2)

def dB : Ty → List Value → Option (List Value)
  | .int k, .int k' y :: r => match decide (k = k') && decide (y = 0) with
    | true => some r
    | false => none
  | .bool, .bool false :: r => some r
  | .str, .string s :: r => match s.data.toList.isEmpty with
    | true => some r
    | false => none
  | .sl _, .slice none 0 0 :: r => some r
  | .unit, r => some r
  | .pair a b, r => match dB a r with
    | some r => dB b r
    | none => none
  | .st t, r => dB t r
  | _, _ => none
theorem dB_ok {F : Fz} {w : World} : (t : Ty) → (cs r : List Value) → dB t cs = some r → ∃ us, cs = us ++ r ∧ CR F w t t.dft us
  | .int k, cs, r, h => by
    match cs, h with
    | [], h => cases h
    | v :: m, h =>
      cases v with
      | int k' y =>
        simp only [dB] at h
        split at h
        · rename_i hh
          simp only [Bool.and_eq_true, decide_eq_true_eq] at hh
          obtain ⟨rfl, rfl⟩ := hh
          cases h
          exact ⟨[_], rfl, rfl⟩
        · cases h
      | _ => cases h
  | .bool, cs, r, h => by
    match cs, h with
    | [], h => cases h
    | v :: m, h =>
      cases v with
      | bool y =>
        cases y with
        | false => cases h; exact ⟨[_], rfl, rfl⟩
        | true => cases h
      | _ => cases h
  | .str, cs, r, h => by
    match cs, h with
    | [], h => cases h
    | v :: m, h =>
      cases v with
      | string y =>
        simp only [dB] at h
        split at h
        · rename_i hh
          cases h
          refine ⟨[_], rfl, ?_⟩
          show [_] = [_]
          congr 1
          congr 1
          exact emptyBA (by rw [hh]; rfl)
        · cases h
      | _ => cases h
  | .sl t, cs, r, h => by
    match cs, h with
    | [], h => cases h
    | v :: m, h =>
      have : v = .slice none 0 0 ∧ m = r := by
        unfold dB at h
        split at h
        all_goals first | (rename_i e _; cases e; done) | (cases h; done) | skip
        all_goals simp_all
      obtain ⟨rfl, rfl⟩ := this
      exact ⟨[_], rfl, none, 0, rfl, Nat.le_refl _, fun i x hx => by simp [Ty.dft] at hx⟩
  | .unit, cs, r, h => by
    have : cs = r := by cases cs <;> (cases h; rfl)
    exact ⟨[], by rw [this]; rfl, rfl⟩
  | .st t, cs, r, h => dB_ok t cs r (by simpa only [dB] using h)
  | .pair a b, cs, r, h => by
    simp only [dB] at h
    split at h
    · rename_i r1 h1
      obtain ⟨u1, rfl, k1⟩ := dB_ok (F := F) (w := w) a cs r1 h1
      obtain ⟨u2, rfl, k2⟩ := dB_ok (F := F) (w := w) b r1 r h
      exact ⟨u1 ++ u2, by simp, u1, u2, rfl, k1, k2⟩
    · cases h

def fB (P : Program) : List Field → List (Nat × Nat × Bool) → Bool
  | _, [] => true
  | [], _ :: _ => false
  | fd :: fs, (off, size, agg) :: r => Nat.beq fd.offset off && (match P.info? fd.type with | some i => Nat.beq i.size size | none => false) && (match aggB P fd.type with | some b => b == agg | none => false) && fB P fs r
theorem fB_ok {P : Program} : ∀ (fs : List Field) (l : List (Nat × Nat × Bool)), fB P fs l = true → ∀ (f off size : Nat) (agg : Bool), l[f]? = some (off, size, agg) →
    ∃ (fd : Field) (i : TypeInfo), fs[f]? = some fd ∧ fd.offset = off ∧ P.info? fd.type = some i ∧ i.size = size ∧ ((isAgg fd.type).run P = fun w => .ok agg w)
  | _, [], _, f, _, _, _, h => by simp at h
  | [], _ :: _, h, _, _, _, _, _ => by cases h
  | fd :: fs, (off, size, agg) :: r, h, f, off', size', agg', hf => by
    simp only [fB, Bool.and_eq_true] at h
    obtain ⟨⟨⟨h1, h2⟩, h3⟩, h4⟩ := h
    cases f with
    | zero =>
      simp at hf
      obtain ⟨rfl, rfl, rfl⟩ := hf
      cases hi : P.info? fd.type with
      | none => rw [hi] at h2; cases h2
      | some i =>
        rw [hi] at h2
        cases ha : aggB P fd.type with
        | none => rw [ha] at h3; cases h3
        | some b =>
          rw [ha] at h3
          have : b = agg := by simpa using h3
          subst this
          exact ⟨fd, i, rfl, Nat.eq_of_beq_eq_true h1, hi, Nat.eq_of_beq_eq_true h2, aggB_ok ha⟩
    | succ f => exact fB_ok fs r h4 f off' size' agg' (by simpa using hf)

theorem sem_assoc {α β γ : Type} (x : Sem α) (f : α → Sem β) (k : β → Sem γ) : (x.bind f).bind k = x.bind fun a => (f a).bind k := by
  induction x with
  | pure a => rfl
  | halt h => rfl
  | _ => simp only [Sem.bind]; simp only [*]
theorem sem_pure {α : Type} (x : Sem α) : x.bind Sem.pure = x := by
  induction x with
  | pure a => rfl
  | halt h => rfl
  | _ => simp only [Sem.bind]; simp only [*]
theorem sem_lawful : LawfulMonad Sem := LawfulMonad.mk' Sem (id_map := fun x => sem_pure x) (pure_bind := fun _ _ => rfl) (bind_assoc := sem_assoc)

theorem mapM_runL {α β : Type} {P : Program} {f : α → Sem β} {h : α → β} : ∀ (l : List α), (∀ x ∈ l, ∀ w, (f x).run P w = .ok (h x) w) → ∀ w, (l.mapM f).run P w = .ok (l.map h) w
  | [], _, w => rfl
  | x :: l, hf, w => by
    have := sem_lawful
    rw [List.mapM_cons]
    simp only [Sem.run_bind, hf x (by simp) w, Result.andThen, mapM_runL l (fun y hy => hf y (by simp [hy])) w]
    rfl
theorem mapM_run {α β : Type} {P : Program} {f : α → Sem β} {as : Array α} {h : α → β} (hf : ∀ x ∈ as, ∀ w, (f x).run P w = .ok (h x) w) : (as.mapM f).run P = fun w => .ok (as.map h) w := by
  have := sem_lawful
  funext w
  rw [Array.mapM_eq_mapM_toList]
  show (List.toArray <$> _ : Sem _).run P w = _
  rw [← bind_pure_comp]
  simp only [Sem.run_bind, mapM_runL as.toList (fun x hx => hf x (by simpa using hx)) w, Result.andThen]
  show Result.ok _ w = _
  congr 1
  apply Array.toList_inj.1
  simp

def plB (P : Program) (fs : List Field) : Bool := fs.all fun f => (P.info? f.type).isSome
theorem places_ok {P : Program} {fs : Array Field} (h : plB P fs.toList = true) :
    ((fs.mapM fun f => do pure (f.offset, ← sizeOf f.type) : Sem (Array (Nat × Nat))).run P = fun w => .ok (fs.map fun f => (f.offset, P.cellsOf f.type)) w) := by
  refine mapM_run fun f hf w => ?_
  have := List.all_eq_true.1 h f (by simpa using hf)
  obtain ⟨i, hi⟩ := Option.isSome_iff_exists.1 this
  simp only [Sem.run_bind, Go.run_sizeOf w hi, Result.andThen]
  rfl

def elB (P : Program) (ei : TI) (e : TypeId) : Bool := match P.info? e with
  | some i => Nat.beq i.size ei.ty.size && Nat.ble i.bytes 1024 && Nat.beq i.size ei.size && (match i.zero with
    | some z => (match dB ei.ty z.cells.toList with | some [] => true | _ => false)
    | none => false)
  | none => false

def dOk (P : Program) (t : TypeId) (d : D) : Bool := match d, P.underlying t with
  | .int k, some (.int k') => decide (k = k')
  | .bool, some .bool => true
  | .str, some .string => true
  | .slice e, some (.slice e') => Nat.beq e e'
  | .array n e, some (.array n' e') => Nat.beq n n' && Nat.beq e e'
  | .struct, some (.struct _) => true
  | .ptr _, _ => true
  | .other, _ => true
  | _, _ => false

def tiB (P : Program) (ti : TypeId → TI) (t : TypeId) : Bool :=
  dOk P t (ti t).d &&
  (match (ti t).flds with
    | [] => (match (ti t).d, P.underlying t with | .struct, some (.struct fs) => plB P fs.toList | .struct, _ => false | _, _ => true)
    | fl => match P.underlying t with | some (.struct fs) => fB P fs.toList fl && plB P fs.toList | _ => false) &&
  (match Nat.beq (ti t).size 1000000000 with
    | true => true
    | false => match P.info? t, aggB P t with
      | some i, some a => Nat.beq i.size (ti t).size && Nat.beq i.bytes (ti t).bytes && (a == (ti t).agg) && (match i.zero with
        | some z => (match Nat.beq (ti t).zero.length (ti t).size with | true => zB (ti t).zero z.cells.toList | false => true)
        | none => false)
      | _, _ => false) &&
  Nat.blt (ti t).zero.length 1000000000 &&
  (match (ti t).d with
    | .slice e | .array _ e => elB P (ti e) e
    | _ => true)

theorem tiB_ok {P : Program} {E : Env} {t : TypeId} (h : tiB P E.ti t = true) : TiOk P E t := by
  unfold tiB at h
  simp only [Bool.and_eq_true] at h
  obtain ⟨⟨⟨⟨hd, hfl⟩, hin⟩, hz⟩, hel⟩ := h
  have hstruct : (E.ti t).d = .struct → ∃ fs, P.underlying t = some (.struct fs) := by
    intro e
    rw [e] at hd
    unfold dOk at hd
    cases hu : P.underlying t with
    | none => rw [hu] at hd; cases hd
    | some d => rw [hu] at hd; cases d <;> first | exact ⟨_, rfl⟩ | (cases hd; done)
  have hflds : ∀ (f off size : Nat) (agg : Bool), (E.ti t).flds[f]? = some (off, size, agg) → ∃ fs : Array Field, P.underlying t = some (.struct fs) ∧ fB P fs.toList (E.ti t).flds = true ∧ plB P fs.toList = true := by
    intro f off size agg hf
    cases hl : (E.ti t).flds with
    | nil => rw [hl] at hf; simp at hf
    | cons a l =>
      rw [hl] at hfl
      simp only [] at hfl
      split at hfl
      · rename_i fs e
        simp only [Bool.and_eq_true] at hfl
        exact ⟨fs, e, hfl.1, hfl.2⟩
      · cases hfl
  have helem : ∀ e, elB P (E.ti e) e = true → ∃ i z, P.info? e = some i ∧ i.size = (E.ti e).ty.size ∧ i.bytes ≤ 1024 ∧ i.size = (E.ti e).size ∧ i.zero = some z ∧ (∀ F w, CR F w (E.ti e).ty (E.ti e).ty.dft z.cells.toList) := by
    intro e he
    unfold elB at he
    split at he
    · rename_i i hi
      simp only [Bool.and_eq_true] at he
      obtain ⟨⟨⟨h1, h2⟩, h3⟩, h4⟩ := he
      split at h4
      · rename_i z hz
        split at h4
        · rename_i hd
          refine ⟨i, z, hi, Nat.eq_of_beq_eq_true h1, Nat.le_of_ble_eq_true h2, Nat.eq_of_beq_eq_true h3, hz, fun F w => ?_⟩
          obtain ⟨us, e1, e2⟩ := dB_ok (F := F) (w := w) _ _ _ hd
          rw [List.append_nil] at e1
          rw [e1]; exact e2
        · cases h4
      · cases h4
    · cases he
  refine ⟨fun e he => ?_, fun n e he => ?_, fun k he => ?_, fun he => ?_, fun he => ?_, hstruct, fun f off size agg hf => ?_, fun hs => ?_, ?_, fun he => ?_, fun e he => ?_⟩
  · rw [he] at hd
    unfold dOk at hd
    cases hu : P.underlying t with
    | none => rw [hu] at hd; cases hd
    | some d => rw [hu] at hd; cases d <;> first | (cases hd; done) | (rw [Nat.eq_of_beq_eq_true hd])
  · rw [he] at hd
    unfold dOk at hd
    cases hu : P.underlying t with
    | none => rw [hu] at hd; cases hd
    | some d =>
      rw [hu] at hd; cases d <;> first | (cases hd; done) | skip
      simp only [Bool.and_eq_true] at hd
      rw [Nat.eq_of_beq_eq_true hd.1, Nat.eq_of_beq_eq_true hd.2]
  · rw [he] at hd
    unfold dOk at hd
    cases hu : P.underlying t with
    | none => rw [hu] at hd; cases hd
    | some d =>
      rw [hu] at hd; cases d <;> first | (cases hd; done) | skip
      simp only [decide_eq_true_eq] at hd
      rw [hd]
  · rw [he] at hd
    unfold dOk at hd
    cases hu : P.underlying t with
    | none => rw [hu] at hd; cases hd
    | some d => rw [hu] at hd; cases d <;> first | (cases hd; done) | rfl
  · rw [he] at hd
    unfold dOk at hd
    cases hu : P.underlying t with
    | none => rw [hu] at hd; cases hd
    | some d => rw [hu] at hd; cases d <;> first | (cases hd; done) | rfl
  · obtain ⟨fs, h1, h2, h3⟩ := hflds f off size agg hf
    obtain ⟨fd, i, k1, k2, k3, k4, k5⟩ := fB_ok _ _ h2 f off size agg hf
    exact ⟨fs, fd, i, h1, by simpa using k1, k2, k3, k4, k5⟩
  · have hb : Nat.beq (E.ti t).size 1000000000 = false := by
      cases hb : Nat.beq (E.ti t).size 1000000000 with
      | true => exact absurd (Nat.eq_of_beq_eq_true hb) hs
      | false => rfl
    rw [hb] at hin
    simp only [] at hin
    split at hin
    · rename_i i a hi ha
      simp only [Bool.and_eq_true] at hin
      obtain ⟨⟨⟨h1, h2⟩, h3⟩, h4⟩ := hin
      split at h4
      · rename_i z hz
        have : a = (E.ti t).agg := by simpa using h3
        refine ⟨i, z, hi, Nat.eq_of_beq_eq_true h1, Nat.eq_of_beq_eq_true h2, this ▸ aggB_ok ha, hz, fun hl F w g => ?_⟩
        have hlb : Nat.beq (E.ti t).zero.length (E.ti t).size = true := by rw [hl]; exact Nat.beq_refl _
        rw [hlb] at h4
        exact zB_ok h4
      · cases h4
    · cases hin
  · simpa [Nat.blt_eq] using hz
  · obtain ⟨fs, hu⟩ := hstruct he
    have hpl : plB P fs.toList = true := by
      split at hfl
      · rw [he, hu] at hfl; exact hfl
      · rw [hu] at hfl
        simp only [Bool.and_eq_true] at hfl
        exact hfl.2
    refine ⟨fs, _, hu, places_ok hpl, fun f off size agg hf => ?_⟩
    obtain ⟨fs', h1, h2, h3⟩ := hflds f off size agg hf
    rw [hu] at h1
    cases h1
    obtain ⟨fd, i, k1, k2, k3, k4, k5⟩ := fB_ok _ _ h2 f off size agg hf
    have k1' : fs[f]? = some fd := by simpa using k1
    rw [Array.getElem?_map, k1']
    simp [Program.cellsOf, k3, k2, k4]
  · refine helem e ?_
    rcases he with he | ⟨n, he⟩ <;> (rw [he] at hel; exact hel)

/-- all entries of a table -/
def Tr.all {α : Type} (p : Nat → α → Bool) : Tr α → Bool
  | .leaf => true
  | .node k v l r => p k v && (l.all p && r.all p)
theorem Tr.all_find {α : Type} {p : Nat → α → Bool} : ∀ (t : Tr α), t.all p = true → ∀ i v, t.find i = some v → p i v = true
  | .leaf, _, i, v, h => by cases h
  | .node k x l r, ha, i, v, h => by
    simp only [Tr.all, Bool.and_eq_true] at ha
    simp only [Tr.find] at h
    split at h
    · rename_i hk
      cases h
      rw [← Nat.eq_of_beq_eq_true hk]; exact ha.1
    · split at h
      · exact Tr.all_find l ha.2.1 i v h
      · exact Tr.all_find r ha.2.2 i v h

def noTI : TI := ⟨.other, false, 1000000000, 0, .unit, [], []⟩
theorem ti_all {P : Program} {E : Env} {T : Tr TI} (he : ∀ t, E.ti t = (T.find t).getD noTI) (h : T.all (fun t _ => tiB P E.ti t) = true) : ∀ t, TiOk P E t := by
  intro t
  cases hf : T.find t with
  | some v => exact tiB_ok (Tr.all_find T h t v hf)
  | none =>
    have ht : E.ti t = noTI := by rw [he, hf]; rfl
    refine ⟨fun e h => ?_, fun n e h => ?_, fun k h => ?_, fun h => ?_, fun h => ?_, fun h => ?_, fun f off size agg h => ?_, fun h => ?_, ?_, fun h => ?_, fun e h => ?_⟩
    all_goals first | (rw [ht] at h; cases h; done) | (rw [ht] at h; simp [noTI] at h; done) | (rw [ht]; decide)

/-- a table of functions, each shown to be the program's -/
inductive FiAll (P : Program) : Tr FI → Prop where
  | leaf : FiAll P .leaf
  | node {k : Nat} {v : FI} {l r : Tr FI} : P.funcs[k]? = some v.fn → (v.fn.body.isSome && !(v.fn.name == "runtime.NumGoroutine")) = true → FiAll P l → FiAll P r → FiAll P (.node k v l r)
theorem FiAll.find {P : Program} {T : Tr FI} (h : FiAll P T) : ∀ i v, T.find i = some v → P.funcs[i]? = some v.fn ∧ v.fn.body.isSome = true ∧ (v.fn.name == "runtime.NumGoroutine") = false := by
  induction h with
  | leaf => intro i v h; cases h
  | node h1 h2 _ _ ih1 ih2 =>
    intro i v h
    simp only [Tr.find] at h
    split at h
    · rename_i hk
      cases h
      rw [← Nat.eq_of_beq_eq_true hk]
      simp only [Bool.and_eq_true, Bool.not_eq_true'] at h2
      exact ⟨h1, h2.1, h2.2⟩
    · split at h
      · exact ih1 i v h
      · exact ih2 i v h
theorem fi_all {P : Program} {E : Env} {T : Tr FI} (he : ∀ f, E.fi f = T.find f) (h : FiAll P T) (hx : ∀ f x, E.xt f = some x → XtOne P f x) : FiOk P E := ⟨fun f fi hf => h.find f fi (by rw [← he]; exact hf), hx⟩
theorem xtM {P : Program} {f : FuncId} {x : XT} (hm : x.model = true) (h : ∃ fn, P.funcs[f]? = some fn ∧ fn.body.isNone = true ∧ (fn.name == "runtime.NumGoroutine") = false ∧ Extern.findNext fn = none ∧ Extern.find fn = some (xtFn x)) : XtOne P f x :=
  ⟨fun _ => h, fun h' => by rw [hm] at h'; cases h'⟩
/-- a table of the library's functions -/
inductive XtAll (P : Program) : List (Nat × XT) → Prop where
  | nil : XtAll P []
  | cons {k : Nat} {x : XT} {l} : XtOne P k x → XtAll P l → XtAll P ((k, x) :: l)
def xtOf (l : List (Nat × XT)) (f : Nat) : Option XT := match l with
  | [] => none
  | (k, x) :: r => match Nat.beq k f with
    | true => some x
    | false => xtOf r f
theorem XtAll.find {P : Program} {l : List (Nat × XT)} (h : XtAll P l) : ∀ f x, xtOf l f = some x → XtOne P f x := by
  induction h with
  | nil => intro f x h; cases h
  | cons h1 _ ih =>
    intro f x h
    simp only [xtOf] at h
    split at h
    · rename_i hk
      cases h
      rw [← Nat.eq_of_beq_eq_true hk]; exact h1
    · exact ih f x h
end Go.Proofs.YtjklgmflillagaaDoor.Ev
