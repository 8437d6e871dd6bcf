/- What the evaluator says of an operation that calls nothing is what the machine does: the operations that look at no memory. -/
import Derived.Test.YtjklgmflillagaaDoorEv2
import Derived.RowKit3
namespace Go.Proofs.YtjklgmflillagaaDoor.Ev
open Go Go.RowKit
set_option linter.unusedVariables false
set_option linter.unusedSimpArgs false

theorem cond_some {α : Type} {b : Bool} {a : Option α} {x : α} (h : cond b a none = some x) : b = true ∧ a = some x := by
  cases b with
  | true => exact ⟨rfl, h⟩
  | false => cases h
theorem cond_none {α : Type} {b : Bool} {a : Option α} {x : α} (h : cond b none a = some x) : b = false ∧ a = some x := by
  cases b with
  | false => exact ⟨rfl, h⟩
  | true => cases h

section
variable {α : Type} {P : Program} {w : World}

theorem intOp_ok {op : BinOp} {k : IntKind} {a b : Int} {K : AV → Option α} {x : α} (h : intOp op k a b K = some x) (hop : op ≠ .shl ∧ op ≠ .shr) (t : TypeId) :
    ∃ σ v, K σ = some x ∧ (binOp op t (.int k a) (.int k b)).run P w = .ok v w ∧ ((∃ n, σ = .int k n ∧ v = .int k n) ∨ ∃ c, σ = .bool c ∧ v = .bool c) := by
  cases op <;> simp only [intOp] at h <;> first
    | cases h
    | exact absurd rfl hop.1
    | exact absurd rfl hop.2
    | (refine ⟨_, _, h, by (simp only [binOp, ne_eq, not_true_eq_false, if_false]; rfl), ?_⟩; first | exact .inl ⟨_, rfl, rfl⟩ | exact .inr ⟨_, rfl, rfl⟩)
    | (obtain ⟨h1, h2⟩ := cond_none h
       have h3 : b ≠ 0 := by simpa using h1
       refine ⟨_, _, h2, by (simp only [binOp, ne_eq, not_true_eq_false, if_false, Op.intDiv, if_neg h3]; rfl), ?_⟩; first | exact .inl ⟨_, rfl, rfl⟩ | exact .inr ⟨_, rfl, rfl⟩)

theorem strOp_ok {op : BinOp} {a b : ByteArray} {K : AV → Option α} {x : α} (h : strOp op a b K = some x) (t : TypeId) :
    ∃ σ v, K σ = some x ∧ (binOp op t (.string a) (.string b)).run P w = .ok v w ∧ ((∃ n, σ = .str n ∧ v = .string n) ∨ ∃ c, σ = .bool c ∧ v = .bool c) := by
  cases op <;> simp only [strOp] at h <;> first
    | cases h
    | (refine ⟨_, _, h, by rfl, .inr ⟨_, rfl, rfl⟩⟩)
    | (obtain ⟨h1, h2⟩ := cond_some h
       have h3 : ¬ (((a.size + b.size : Nat) : Int) > IntKind.i64.max) := by
         have := of_decide_eq_true h1
         have e : IntKind.i64.max = 9223372036854775807 := rfl
         rw [e]; omega
       refine ⟨_, _, h2, ?_, .inl ⟨_, rfl, rfl⟩⟩
       show (Op.stringOp .add a b).run P w = _
       unfold Op.stringOp
       simp only [if_neg h3]
       rfl)

/-- The outcome of an operation: a value (or none), and how the state has gone on. -/
def OpOk (B : Nat → Prop) (F : Fz) (g : List GE) (w : World) (r : Result Next) (Q : AV → Hp → Prop) : Prop :=
  ∃ σ H' v w' F' g', Q σ H' ∧ (r = .ok (.value v) w' ∨ (r = .ok .skip w' ∧ v = undef)) ∧ VR2 F' w' g' σ v ∧ Gr B F g w F' g' w' ∧ HR B F' w' g' H'

theorem OpOk.plain {B : Nat → Prop} {F : Fz} {g : List GE} {w : World} {H : Hp} {r : Sem Value} {Q : AV → Hp → Prop} {σ : AV} {v : Value}
    (hr : r.run P w = .ok v w) (hH : HR B F w g H) (hQ : Q σ H) (hv : VR2 F w g σ v) : OpOk B F g w ((do pure (.value (← r)) : Sem Next).run P w) Q :=
  ⟨σ, H, v, w, F, g, hQ, .inl (by simp only [Sem.run_bind, hr, Result.andThen]; rfl), hv, Gr.refl .., hH⟩

/-- What the evaluator's types say of the program's. -/
structure TiOk (P : Program) (E : Env) (t : TypeId) : Prop where
  slice : ∀ e, (E.ti t).d = .slice e → P.underlying t = some (.slice e)
  array : ∀ n e, (E.ti t).d = .array n e → P.underlying t = some (.array n e)
  int : ∀ k, (E.ti t).d = .int k → P.underlying t = some (.int k)
  bool : (E.ti t).d = .bool → P.underlying t = some .bool
  str : (E.ti t).d = .str → P.underlying t = some .string
  struct : (E.ti t).d = .struct → ∃ fs, P.underlying t = some (.struct fs)
  flds : ∀ (f off size : Nat) (agg : Bool), (E.ti t).flds[f]? = some (off, size, agg) → ∃ (fs : Array Field) (fd : Field) (i : TypeInfo), P.underlying t = some (.struct fs) ∧ fs[f]? = some fd ∧ fd.offset = off ∧
    P.info? fd.type = some i ∧ i.size = size ∧ ((isAgg fd.type).run P = fun w => .ok agg w)
  info : (E.ti t).size ≠ 1000000000 → ∃ i z, P.info? t = some i ∧ i.size = (E.ti t).size ∧ i.bytes = (E.ti t).bytes ∧ ((isAgg t).run P = fun w => .ok (E.ti t).agg w) ∧
    i.zero = some z ∧ ((E.ti t).zero.length = (E.ti t).size → ∀ F w g, All2 (VR0 F w g) (E.ti t).zero z.cells.toList)
  zlen : (E.ti t).zero.length < 1000000000
  places : (E.ti t).d = .struct → ∃ (fs : Array Field) (pl : Array (Nat × Nat)), P.underlying t = some (.struct fs) ∧
    ((fs.mapM fun f => do pure (f.offset, ← sizeOf f.type) : Sem (Array (Nat × Nat))).run P = fun w => .ok pl w) ∧
    ∀ (f off size : Nat) (agg : Bool), (E.ti t).flds[f]? = some (off, size, agg) → pl[f]? = some (off, size)
  /-- a type of elements -/
  elem : ∀ e, ((E.ti t).d = .slice e ∨ ∃ n, (E.ti t).d = .array n e) → ∃ i z, P.info? e = some i ∧ i.size = (E.ti e).ty.size ∧ i.bytes ≤ 1024 ∧ i.size = (E.ti e).size ∧
    i.zero = some z ∧ (∀ F w, CR F w (E.ti e).ty (E.ti e).ty.dft z.cells.toList)

theorem run_equal_bool (t : TypeId) (a b : Bool) (h : P.underlying t = some .bool) : (Op.equal t (.bool a) (.bool b)).run P w = .ok (a == b) w := by
  show (Op.equalIn (9999 + 1) t _ _).run P w = _
  rw [Op.equalIn]
  simp only [Sem.run_bind, run_underlying h, Result.andThen]
  rfl
theorem binOpK_ok {E : Env} {B : Nat → Prop} {F : Fz} {g : List GE} {H : Hp} {op : BinOp} {t : TypeId} (ht : TiOk P E t) {x y : AV} {u v : Value} {K : AV → Option α} {r : α}
    (h : binOpK E op t x y K = some r) (hx : VR2 F w g x u) (hy : VR2 F w g y v) :
    ∃ σ z, K σ = some r ∧ (binOp op t u v).run P w = .ok z w ∧ VR2 F w g σ z := by
  unfold binOpK at h
  split at h
  · rename_i k a k' b
    have hu : u = .int k a := hx
    have hv : v = .int k' b := hy
    subst hu hv
    split at h
    · obtain ⟨h1, h2⟩ := cond_none h
      have h3 : ¬ b < 0 := by simpa using h1
      exact ⟨_, _, h2, by simp only [binOp, Op.shift, if_neg h3]; rfl, rfl⟩
    · obtain ⟨h1, h2⟩ := cond_none h
      have h3 : ¬ b < 0 := by simpa using h1
      exact ⟨_, _, h2, by simp only [binOp, Op.shift, if_neg h3]; rfl, rfl⟩
    · rename_i hs1 hs2
      split at h
      · rename_i hk
        subst hk
        obtain ⟨σ, z, h1, h2, h3⟩ := intOp_ok (P := P) (w := w) h ⟨fun e => hs1 e, fun e => hs2 e⟩ t
        refine ⟨σ, z, h1, h2, ?_⟩
        rcases h3 with ⟨n, rfl, rfl⟩ | ⟨c, rfl, rfl⟩ <;> rfl
      · cases h
  · rename_i a b
    have hu : u = .string a := hx
    have hv : v = .string b := hy
    subst hu hv
    obtain ⟨σ, z, h1, h2, h3⟩ := strOp_ok (P := P) (w := w) h t
    refine ⟨σ, z, h1, h2, ?_⟩
    rcases h3 with ⟨n, rfl, rfl⟩ | ⟨c, rfl, rfl⟩ <;> rfl
  · rename_i a b
    have hu : u = .bool a := hx
    have hv : v = .bool b := hy
    subst hu hv
    split at h
    · rename_i hd
      refine ⟨_, _, h, ?_, rfl⟩
      simp only [binOp, Sem.run_bind, run_equal_bool t a b (ht.bool hd), Result.andThen]
      rfl
    · rename_i hd
      refine ⟨_, _, h, ?_, rfl⟩
      simp only [binOp, Sem.run_bind, run_equal_bool t a b (ht.bool hd), Result.andThen]
      rfl
    · cases h
  · cases h
end
end Go.Proofs.YtjklgmflillagaaDoor.Ev
