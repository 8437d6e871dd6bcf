/- What an operation of each kind does to the memory. -/
import Derived.Test.YtjklgmflillagaaDoorEv27
namespace Go.Proofs.YtjklgmflillagaaDoor.Ev
open Go Go.RowKit
set_option linter.unusedVariables false
set_option linter.unusedSimpArgs false

section
variable {α : Type} {P : Program} {E : Env} {B : Nat → Prop} {F : Fz} {g : List GE} {w : World} {H : Hp}

theorem opK_kind0 {op : Op} {ρ : Operand → AV} (hk : kindOf E op = 0) (H H2 : Hp) (K : AV → Hp → Option α) (hc : ∀ c, op ≠ .call c) (hb : ∀ t n p, op ≠ .buildSlice t n p) : opK E op ρ H K = opK E op ρ H2 (fun v _ => K v H) := by
  cases op with
  | call c => exact absurd rfl (hc c)
  | buildSlice t n p => exact absurd rfl (hb t n p)
  | load | alloc | box | makeSlice | convert | store => simp [kindOf] at hk
  | slice t x lo hi mx =>
    simp only [kindOf] at hk
    split at hk
    · rename_i hd
      simp only [opK, hd]
    · simp only [opK]
      split
      · split
        · simp only [Option.map_none, Option.isSome_none]
          have hw : ∀ (H : Hp) (x : AV), widen H false x = x := fun H x => by unfold widen; split <;> first | rfl | (rename_i e; cases e)
          rw [hw, hw]
        · rfl
        · rfl
      · rfl
      · rfl
    · cases hk
  | binOp op t x y yt =>
    simp only [opK]
  | _ => first | rfl | (simp only [opK]; done) | (simp [kindOf] at hk)

theorem kind_binOp {a : BinOp} {b : TypeId} {c y : Operand} {d : TypeId} : kindOf E (.binOp a b c y d) = 0 ∨ kindOf E (.binOp a b c y d) = 3 := by
  unfold kindOf
  split <;> first | exact .inr rfl | exact .inl rfl | (rename_i e; cases e)

theorem kind0_nil {op : Op} (hk : kindOf E op = 0) : nilOp op = false := by
  cases op with
  | binOp a b c y d =>
    unfold nilOp
    split
    · rename_i e
      cases e
      simp [kindOf] at hk
    · rfl
  | _ => rfl

theorem opK_zero {op : Op} {ρ : Operand → AV} {σ : AV} {H' : Hp} (hk : kindOf E op = 0) (hc : ∀ c, op ≠ .call c) (h : opK E op ρ H (fun v H => some (v, H)) = some (σ, H')) :
    H' = H ∧ ∀ H2, opK E op ρ H2 (fun v H => some (v, H)) = some (σ, H2) := by
  by_cases hb : ∀ t n p, op ≠ .buildSlice t n p
  · have e : ∀ H2, opK E op ρ H2 (fun v H => some (v, H)) = some (σ, H2) := by
      intro H2
      rw [opK_kind0 hk H2 H _ hc hb]
      have := opK_nat (E := E) (o := op) (kind0_nil hk) (ρ := ρ) (H := H) (K := fun v H => some (v, H)) (f := fun p => some (p.1, H2))
      rw [h] at this
      exact this.symm
    have := e H
    rw [h] at this
    exact ⟨(Prod.mk.inj (Option.some.inj this)).2, e⟩
  · have ⟨t, n, p, e⟩ : ∃ t n p, op = .buildSlice t n p := Classical.byContradiction fun hh => hb fun t n p e => hh ⟨t, n, p, e⟩
    subst e
    simp only [opK] at h ⊢
    cases n with
    | zero => simp [kindOf] at hk
    | succ n =>
      simp only [kindOf] at hk
      cases hd : (E.ti t).d with
      | slice e =>
        simp only [hd] at h hk ⊢
        cases hs : (E.ti e).ty.hasSl with
        | true => rw [hs] at hk; cases hk
        | false =>
          split at h
          · rename_i ps hps hall
            have hids := ownIds_parts hs p.toList ps hps
            simp only [hids] at h
            cases h
            refine ⟨rfl, fun H2 => ?_⟩
            rw [partsTy_noSl (H2 := H) hs, hps, hall]
            simp only [hids]
            rfl
          · cases h
      | _ => simp only [hd] at h; cases h

theorem minMaxK_zero {mx : Bool} {vs : List AV} {σ : AV} {H' : Hp} (h : minMaxK mx vs (fun v => some (v, H)) = some (σ, H')) : H' = H ∧ ∀ H2 : Hp, minMaxK mx vs (fun v => some (v, H2)) = some (σ, H2) := by
  unfold minMaxK at h ⊢
  split at h
  · split at h
    · rename_i hk
      cases h
      refine ⟨rfl, fun H2 => ?_⟩
      rw [if_pos hk]
    · cases h
  · cases h

theorem opStep_zero {call : (g : FuncId) → List AV → Hp → Option (Ret E g)} {o : Oper} {ts : List AV} {σ : AV} {H' : Hp} (hk : kindOf E o.op = 0) (h : opStep E call o ts H = some (σ, H')) :
    H' = H ∧ ∀ H2, opStep E call o ts H2 = some (σ, H2) := by
  unfold opStep at h ⊢
  cases ho : o.op with
  | call c =>
    simp only [ho] at h hk ⊢
    cases hc : c.callee with
    | builtin b =>
      simp only [kindOf, hc] at h hk ⊢
      cases b with
      | min => simp only [builtinK] at h ⊢; exact minMaxK_zero h
      | max => simp only [builtinK] at h ⊢; exact minMaxK_zero h
      | len =>
        simp only [builtinK] at h ⊢
        split at h
        · rename_i x
          split at h
          · rename_i t ht
            split at h
            · rename_i n hn
              split at h
              · rename_i hd
                split at h
                · cases h
                  refine ⟨rfl, fun H2 => ?_⟩
                  simp_all
                · cases h
              · rename_i e hd
                split at h
                · cases h
                · cases h
                  refine ⟨rfl, fun H2 => ?_⟩
                  simp_all
              · cases h
            · cases h
          · cases h
        all_goals first | (cases h; done) | simp_all
      | _ => simp at hk
    | value f =>
      simp only [kindOf, hc] at hk
      split at hk
      all_goals first | (rename_i e; cases e; done) | (simp at hk; done) | skip
      rename_i g' e
      cases e
      split at hk
      · rename_i gi hgi
        split at hk <;> simp at hk
      · simp at hk
    | invoke a b => simp only [hc] at h; cases h
  | _ =>
    simp only [ho] at h hk ⊢
    exact opK_zero hk (fun c e => by cases e) h
end
end Go.Proofs.YtjklgmflillagaaDoor.Ev
