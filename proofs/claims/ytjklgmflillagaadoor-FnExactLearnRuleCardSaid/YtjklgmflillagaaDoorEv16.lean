/- What comes back of a call. -/
import Derived.Test.YtjklgmflillagaaDoorEv15
namespace Go.Proofs.YtjklgmflillagaaDoor.Ev
open Go Go.RowKit
set_option linter.unusedVariables false
set_option linter.unusedSimpArgs false

section
variable {P : Program} {E : Env} {B : Nat → Prop} {F : Fz} {g : List GE} {w : World} {H : Hp}

theorem CR_noSl {F F' : Fz} {w w' : World} : (t : Ty) → (x : t.den) → (vs : List Value) → t.hasSl = false → CR F w t x vs → CR F' w' t x vs
  | .int _, _, _, _, h => by simpa only [CR] using h
  | .bool, _, _, _, h => by simpa only [CR] using h
  | .str, _, _, _, h => by simpa only [CR] using h
  | .unit, _, _, _, h => by simpa only [CR] using h
  | .sl _, _, _, hs, _ => by cases hs
  | .st t, x, vs, hs, h => by simp only [CR] at h ⊢; exact CR_noSl t x vs hs h
  | .pair a b, x, _, hs, h => by
    simp only [Ty.hasSl, Bool.or_eq_false_iff] at hs
    simp only [CR] at h ⊢
    obtain ⟨v1, v2, rfl, h1, h2⟩ := h
    exact ⟨v1, v2, rfl, CR_noSl a _ _ hs.1 h1, CR_noSl b _ _ hs.2 h2⟩

/-- a cell that leans on no memory given for reading, and whose blocks are numbered from 'k' on more -/
def Up (F F' : Fz) (w w' : World) (g g' : List GE) (x y : AV) : Prop := ∀ v, VR0 F w g x v → VR0 F' w' g' y v
theorem All2.up {F F' : Fz} {w w' : World} {g g' : List GE} {xs ys : List AV} (h : All2 (Up F F' w w' g g') xs ys) : ∀ {vs : List Value}, All2 (VR0 F w g) xs vs → All2 (VR0 F' w' g') ys vs := by
  induction h with
  | nil => intro vs h; cases h; exact .nil
  | cons h _ ih =>
    intro vs hv
    cases hv with
    | cons h1 h2 => exact .cons (h _ h1) (ih h2)

theorem explode_up {F F' : Fz} {w w' : World} {g g' : List GE} : (t : Ty) → (x : t.den) → (t.hasSl = false ∨ ∀ (t : Ty) (l : List t.den), Up F F' w w' g g' (.sl t l) (.sl t l)) → All2 (Up F F' w w' g g') (explode t x) (explode t x)
  | .int _, _, _ => .cons (fun _ h => h) .nil
  | .bool, _, _ => .cons (fun _ h => h) .nil
  | .str, _, _ => .cons (fun _ h => h) .nil
  | .unit, _, _ => .nil
  | .sl t, l, h => .cons (h.elim (fun h => by cases h) fun h => h t l) .nil
  | .st t, x, h => explode_up t x h
  | .pair a b, x, h => by
    have ha : a.hasSl = false ∨ ∀ (t : Ty) (l : List t.den), Up F F' w w' g g' (.sl t l) (.sl t l) := h.imp (fun h => by simp only [Ty.hasSl, Bool.or_eq_false_iff] at h; exact h.1) id
    have hb : b.hasSl = false ∨ ∀ (t : Ty) (l : List t.den), Up F F' w w' g g' (.sl t l) (.sl t l) := h.imp (fun h => by simp only [Ty.hasSl, Bool.or_eq_false_iff] at h; exact h.2) id
    exact (explode_up a x.1 ha).append (explode_up b x.2 hb)

theorem ownCells_blk : (t : Ty) → (x : t.den) → (b b' : Nat) → (ownCells t x b).2 = (ownCells t x b').2
  | .int _, _, _, _ => rfl
  | .bool, _, _, _ => rfl
  | .str, _, _, _ => rfl
  | .unit, _, _, _ => rfl
  | .sl _, _, _, _ => rfl
  | .st t, x, b, b' => ownCells_blk t x b b'
  | .pair s t, x, b, b' => by
    simp only [ownCells]
    rw [ownCells_blk s x.1 b b', ownCells_blk t x.2 _ (b' + (ownCells s x.1 b').2.length)]

theorem all_up {F F' : Fz} {w w' : World} {g g' : List GE} (id sz n : Nat) : Up F F' w w' g' (g ++ g') (.all id sz n) (.all (g.length + id) sz n) := by
  rintro v ⟨e, A, h1, h2⟩
  exact ⟨e, A, by rw [List.getElem?_append_right (by omega)]; simpa using h1, h2⟩

theorem ownCells_up {F F' : Fz} {w w' : World} {g g' : List GE} : (t : Ty) → (x : t.den) → (b : Nat) → All2 (Up F F' w w' g' (g ++ g')) (ownCells t x b).1 (ownCells t x (g.length + b)).1
  | .int _, _, _ => .cons (fun _ h => h) .nil
  | .bool, _, _ => .cons (fun _ h => h) .nil
  | .str, _, _ => .cons (fun _ h => h) .nil
  | .unit, _, _ => .nil
  | .sl t, l, b => .cons (all_up b t.size l.length) .nil
  | .st t, x, b => ownCells_up t x b
  | .pair s t, x, b => by
    simp only [ownCells]
    rw [ownCells_blk s x.1 (g.length + b) b, Nat.add_assoc]
    exact (ownCells_up s x.1 b).append (ownCells_up t x.2 _)

def Up1 (F F' : Fz) (w w' : World) (g g' : List GE) (x y : AV) : Prop := ∀ v, VR1 F w g x v → VR1 F' w' g' y v

theorem toAV_up {F F' : Fz} {w w' : World} {g g' : List GE} (t : Ty) (x : t.den) (h : t.hasSl = false ∨ ∀ (t : Ty) (l : List t.den), Up F F' w w' g g' (.sl t l) (.sl t l)) : Up1 F F' w w' g g' (toAV t x) (toAV t x) := by
  cases t with
  | st t =>
    rintro v ⟨vs, rfl, hv⟩
    exact ⟨vs, rfl, (explode_up t x h).up hv⟩
  | sl t => exact (h.elim (fun h => by cases h) fun h => h t x : Up F F' w w' g g' (.sl t x) (.sl t x))
  | _ => exact fun _ h => h
theorem ownVal_up {F F' : Fz} {w w' : World} {g g' : List GE} (t : Ty) (x : t.den) (b : Nat) : Up1 F F' w w' g' (g ++ g') (ownVal t x b).1 (ownVal t x (g.length + b)).1 := by
  cases t with
  | st t =>
    rintro v ⟨vs, rfl, hv⟩
    exact ⟨vs, rfl, (ownCells_up t x b).up hv⟩
  | sl t => exact (all_up b t.size x.length : Up F F' w w' g' (g ++ g') _ _)
  | _ => exact fun _ h => h
theorem ownVal_blk (t : Ty) (x : t.den) (b b' : Nat) : (ownVal t x b).2 = (ownVal t x b').2 := by
  cases t with
  | st t => exact ownCells_blk t x b b'
  | _ => rfl
theorem toAV_tup (t : Ty) (x : t.den) (cs : List AV) : toAV t x ≠ .tup cs := by
  cases t <;> (intro h; cases h)
theorem ownVal_tup (t : Ty) (x : t.den) (b : Nat) (cs : List AV) : (ownVal t x b).1 ≠ .tup cs := by
  cases t <;> (intro h; cases h)

theorem retVals_blk (own : Bool) : (ts : List Ty) → (x : (retTy ts).den) → (b b' : Nat) → (retVals own ts x b).2 = (retVals own ts x b').2
  | [], _, _, _ => by cases own <;> rfl
  | [t], x, b, b' => by
    cases own with
    | false => rfl
    | true => exact ownVal_blk t x b b'
  | t :: u :: ts, x, b, b' => by
    cases own with
    | false => rfl
    | true =>
      simp only [retVals]
      rw [ownVal_blk t x.1 b b', retVals_blk true (u :: ts) x.2 _ (b' + (ownVal t x.1 b').2.length)]

theorem All2.up1 {F F' : Fz} {w w' : World} {g g' : List GE} {xs ys : List AV} (h : All2 (Up1 F F' w w' g g') xs ys) : ∀ {vs : List Value}, All2 (VR1 F w g) xs vs → All2 (VR1 F' w' g') ys vs := by
  induction h with
  | nil => intro vs h; cases h; exact .nil
  | cons h _ ih =>
    intro vs hv
    cases hv with
    | cons h1 h2 => exact .cons (h _ h1) (ih h2)

theorem retVals_up (own : Bool) {F F' : Fz} {w w' : World} {g g' : List GE} : (ts : List Ty) → (x : (retTy ts).den) → (b : Nat) →
    (own = true ∨ ts.any Ty.hasSl = false ∨ ∀ (t : Ty) (l : List t.den), Up F F' w w' g' (g ++ g') (.sl t l) (.sl t l)) →
    All2 (Up1 F F' w w' g' (g ++ g')) (retVals own ts x b).1 (retVals own ts x (g.length + b)).1
  | [], _, _, _ => by cases own <;> exact .nil
  | [t], x, b, h => by
    cases own with
    | false => exact .cons (toAV_up t x (h.elim (fun h => by cases h) fun h => h.imp (fun h => by simpa using h) id)) .nil
    | true => exact .cons (ownVal_up t x b) .nil
  | t :: u :: ts, x, b, h => by
    cases own with
    | false =>
      have h' := h.elim (fun h => by cases h) id
      refine .cons (toAV_up t x.1 (h'.imp (fun h => by simp only [List.any_cons, Bool.or_eq_false_iff] at h; exact h.1) id)) ?_
      exact retVals_up false (u :: ts) x.2 b (.inr (h'.imp (fun h => by rw [List.any_cons, Bool.or_eq_false_iff] at h; exact h.2) id))
    | true =>
      simp only [retVals]
      rw [ownVal_blk t x.1 (g.length + b) b, Nat.add_assoc]
      exact .cons (ownVal_up t x.1 b) (retVals_up true (u :: ts) x.2 _ (.inl rfl))

theorem retVals_tup (own : Bool) : (ts : List Ty) → (x : (retTy ts).den) → (b : Nat) → ∀ v ∈ (retVals own ts x b).1, ∀ cs, v ≠ .tup cs
  | [], _, _ => by cases own <;> (intro v hv; cases hv)
  | [t], x, b => by
    cases own <;> (intro v hv cs; simp only [retVals, List.mem_singleton] at hv; subst hv)
    · exact toAV_tup t x cs
    · exact ownVal_tup t x b cs
  | t :: u :: ts, x, b => by
    cases own <;> (intro v hv cs; simp only [retVals, List.mem_cons] at hv; rcases hv with rfl | hv)
    · exact toAV_tup t _ cs
    · exact retVals_tup false (u :: ts) x.2 b v hv cs
    · exact ownVal_tup t _ b cs
    · exact retVals_tup true (u :: ts) x.2 _ v hv cs

theorem one_up {F F' : Fz} {w w' : World} {g g' : List GE} {xs ys : List AV} (h : All2 (Up1 F F' w w' g g') xs ys) (hx : ∀ v ∈ xs, ∀ cs, v ≠ .tup cs) {v : Value} (hv : VR2 F w g (one xs) v) : VR2 F' w' g' (one ys) v := by
  cases h with
  | nil => obtain ⟨vs, h1, h2⟩ := hv; cases vs with | mk l => cases l with
    | nil => exact ⟨_, h1, .nil⟩
    | cons a b => cases h2
  | cons h t =>
    cases t with
    | nil => exact VR1_2 (h v (VR2_1 hv (hx _ (by simp))))
    | cons h' t' =>
      obtain ⟨vs, h1, h2⟩ := hv
      exact ⟨vs, h1, (All2.cons h (All2.cons h' t')).up1 h2⟩
end
end Go.Proofs.YtjklgmflillagaaDoor.Ev
