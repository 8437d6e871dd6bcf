/- The built-in functions; the state of a walk. -/
import Derived.Test.YtjklgmflillagaaDoorEv14b
namespace Go.Proofs.YtjklgmflillagaaDoor.Ev
open Go Go.RowKit
set_option linter.unusedVariables false
set_option linter.unusedSimpArgs false

section
variable {α : Type} {P : Program} {E : Env} {B : Nat → Prop} {F : Fz} {g : List GE} {w : World} {H : Hp}

theorem lenOf_ok {x : AV} {u : Value} {n : Nat} (h : lenOf x = some n) (hx : VR2 F w g x u) : (∃ s, x = .str s ∧ u = .string s ∧ n = s.size) ∨ ((∀ s, x ≠ .str s) ∧ ∃ A c, u = .slice A n c) := by
  cases x <;> simp only [lenOf] at h <;> try (cases h; done)
  · cases h; exact .inl ⟨_, rfl, hx, rfl⟩
  · cases h
    have hx : CR F w (.sl _) _ [u] := hx
    simp only [CR] at hx
    obtain ⟨A, c, h1, _⟩ := hx
    cases h1; exact .inr ⟨by (intro s h; cases h), _, _, rfl⟩
  · cases h
    obtain ⟨A, rfl⟩ := hx; exact .inr ⟨by (intro s h; cases h), _, _, rfl⟩
  · cases h
    obtain ⟨e, A, _, _, _, _, rfl, _⟩ := hx; exact .inr ⟨by (intro s h; cases h), _, _, rfl⟩
  · cases h
    obtain ⟨e, A, _, _, _, _, rfl, _⟩ := hx; exact .inr ⟨by (intro s h; cases h), _, _, rfl⟩

theorem minMaxK_ok {mx : Bool} {vs : List AV} {us : List Value} {K : AV → Option α} {r : α} (h : minMaxK mx vs K = some r) (hx : All2 (VR2 F w g) vs us) :
    ∃ σ z, K σ = some r ∧ VR2 F w g σ z ∧ ∀ ts ty, ((match mx with | true => Builtin.max_ ts ty us.toArray | false => Builtin.min_ ts ty us.toArray) : Sem Value).run P w = .ok z w := by
  unfold minMaxK at h
  split at h
  · rename_i k x k' y
    split at h
    · rename_i hk
      subst hk
      cases hx with
      | cons h1 hx =>
        cases hx with
        | cons h2 hx =>
          cases hx
          have h1 : _ = Value.int k x := h1
          have h2 : _ = Value.int k y := h2
          subst h1 h2
          cases mx <;> exact ⟨_, _, h, rfl, fun _ _ => rfl⟩
    · cases h
  · cases h

theorem builtinK_ok (hE : ∀ t, TiOk P E t) {b : Builtin} {argTypes : Array TypeId} {ty : TypeId} {cs : Array Bool} {vs : List AV} {us : List Value} {K : AV → Hp → Option α} {r : α}
    (h : builtinK E b argTypes vs H K = some r) (hx : All2 (VR2 F w g) vs us) (hH : HR B F w g H) (hB : Bs B w) :
    OpOk B F g w ((builtin b argTypes ty cs us.toArray).run P w) (fun σ H' => K σ H' = some r) := by
  unfold builtinK at h
  split at h
  · -- len
    rename_i x
    split at h
    · rename_i t ht
      split at h
      · rename_i n hn
        cases hx with
        | cons h1 hx =>
          rename_i u us'
          cases hx
          split at h
          · rename_i hd
            rcases lenOf_ok hn h1 with ⟨s, rfl, rfl, rfl⟩ | ⟨hns, _⟩
            · refine OpOk.plain (r := Builtin.len_ argTypes ty #[.string s]) ?_ hH h rfl
              have hat : argTypes = #[t] := by rw [← Array.toArray_toList (xs := argTypes), ht]
              subst hat
              simp [Builtin.len_, run_underlying ((hE t).str hd), goInt]
            · cases x <;> first | cases h | exact absurd rfl (hns _)
          · rename_i e hd
            rcases lenOf_ok hn h1 with ⟨s, rfl, rfl, rfl⟩ | ⟨hns, A, c, rfl⟩
            · cases h
            · have hK : K (.int .i64 (n : Int)) H = some r := by
                cases x <;> first | exact h | exact absurd rfl (hns _)
              refine OpOk.plain (r := Builtin.len_ argTypes ty #[.slice A n c]) ?_ hH hK rfl
              have hat : argTypes = #[t] := by rw [← Array.toArray_toList (xs := argTypes), ht]
              subst hat
              simp [Builtin.len_, run_underlying ((hE t).slice e hd), goInt]
          · cases h
      · cases h
    · cases h
  · -- append
    rename_i s x
    split at h
    · rename_i a b' hat
      split at h
      · rename_i e e2 hd1 hd2
        cases hx with
        | cons h1 hx =>
          cases hx with
          | cons h2 hx =>
            cases hx
            rename_i u v
            obtain ⟨i, z, hi, hsz, hby, hsz2, hz, hzr⟩ := (hE a).elem e (.inl hd1)
            have hzs : z.cells.size = (E.ti e).ty.size := by have := CR_len _ _ _ (hzr F w); simpa using this
            obtain ⟨σ, H', y, w', F', g', k1, k2, k3, k4, k5⟩ := appendK_ok (ty := ty) ((hE a).slice e hd1) ((hE b').slice e2 hd2) hi hsz hby hz hzs h h1 h2 hH hB
            have hat : argTypes = #[a, b'] := by rw [← Array.toArray_toList (xs := argTypes), hat]
            subst hat
            exact OpOk.mem k2 k1 k3 k4 k5
      · cases h
    · cases h
  · -- clear
    rename_i x
    split at h
    · rename_i t hat
      split at h
      · rename_i e hd
        cases hx with
        | cons h1 hx =>
          cases hx
          rename_i u
          obtain ⟨σ, H', y, w', k1, k2, k3, k4, k5⟩ := clearK_ok (P := P) (ty := ty) (hE t) hd h h1 hH
          have hat : argTypes = #[t] := by rw [← Array.toArray_toList (xs := argTypes), hat]
          subst hat
          exact OpOk.mem k2 k1 k3 k4 k5
      · cases h
    · cases h
  · -- min
    obtain ⟨σ, z, h1, h2, h3⟩ := minMaxK_ok (P := P) h hx
    exact OpOk.plain (r := Builtin.min_ argTypes ty us.toArray) (h3 _ _) hH h1 h2
  · obtain ⟨σ, z, h1, h2, h3⟩ := minMaxK_ok (P := P) h hx
    exact OpOk.plain (r := Builtin.max_ argTypes ty us.toArray) (h3 _ _) hH h1 h2
  · cases h

/-! #### the state -/
structure St (B : Nat → Prop) (F : Fz) (g : List GE) (w : World) (H : Hp) (ts : List AV) (a : Act) : Prop where
  tmps : All2 (VR2 F w g) ts a.tmps.toList
  heap : HR B F w g H
  base : Bs B w
  defers : a.defers = []

def GlobOk (E : Env) (F : Fz) (w : World) : Prop := ∀ k p, E.glob k = some p → VR0 F w [] (.rptr p.1 [p.2] 0 0) (.pointer (some ⟨k, 0, none⟩))
theorem GlobOk.gr {F' : Fz} {g' : List GE} {w' : World} (h : GlobOk E F w) (k : Gr B F g w F' g' w') : GlobOk E F' w' := fun i p hp =>
  VR0_gr (B := B) (g := []) (g' := []) ⟨k.up, k.new, k.cell, fun _ _ h => h, k.below⟩ (h i p hp)

theorem ofConst1_ok (v : Value) : VR0 F w g (ofConst1 v) v := by
  unfold ofConst1
  split <;> first | rfl | exact ⟨_, rfl⟩
theorem ofConst_ok (v : Value) : VR2 F w g (ofConst v) v := by
  unfold ofConst
  split
  · rename_i cs
    refine ⟨cs, rfl, ?_⟩
    generalize cs.toList = l
    induction l with
    | nil => exact .nil
    | cons a l ih => exact .cons (ofConst1_ok a) ih
  · exact VR0_2 (ofConst1_ok v)

theorem opnd_ok {ts : List AV} {a : Act} (hs : St B F g w H ts a) (hg : GlobOk E F w) (y : Operand) : VR2 F w g (opnd E ts y) (a.eval y) := by
  cases y with
  | tmp t =>
    simp only [opnd, Act.eval]
    cases ht : ts[t]? with
    | none => simp [List.getD, ht]; exact trivial
    | some v =>
      obtain ⟨u, hu, hv⟩ := hs.tmps.get t v ht
      have hu' : a.tmps[t]? = some u := by simpa using hu
      simp only [List.getD, ht, Option.getD_some, Array.getD_eq_getD_getElem?, hu']
      exact hv
  | const v => exact ofConst_ok v
  | func f => exact ⟨#[], rfl, .nil⟩
  | global k =>
    simp only [opnd, Act.eval]
    split
    · rename_i t x hp
      have := hg k _ hp
      obtain ⟨ad, h1, h2⟩ := this
      exact ⟨ad, h1, h2⟩
    · exact trivial

theorem put_ok {ts : List AV} {a : Act} (hs : St B F g w H ts a) {F' : Fz} {g' : List GE} {w' : World} {H' : Hp} {d : Option Tmp} {σ : AV} {v : Value}
    (hgr : Gr B F g w F' g' w') (hH : HR B F' w' g' H') (hv : VR2 F' w' g' σ v) : St B F' g' w' H' (put ts d σ) (a.put d v) := by
  have h0 := hs.tmps.mono fun _ _ => VR2_gr hgr
  refine ⟨?_, hH, hs.base.mono hgr.below.size, ?_⟩
  · cases d with
    | none => exact h0
    | some d =>
      simp only [put, Act.put, Array.toList_setIfInBounds]
      exact h0.set hv d
  · cases d <;> exact hs.defers
end
end Go.Proofs.YtjklgmflillagaaDoor.Ev
