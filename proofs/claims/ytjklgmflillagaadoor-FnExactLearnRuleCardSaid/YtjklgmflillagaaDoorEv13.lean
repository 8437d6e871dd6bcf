/- All operations that call nothing. -/
import Derived.Test.YtjklgmflillagaaDoorEv12
namespace Go.Proofs.YtjklgmflillagaaDoor.Ev
open Go Go.RowKit
set_option linter.unusedVariables false
set_option linter.unusedSimpArgs false

section
variable {α : Type} {P : Program} {E : Env} {B : Nat → Prop} {F : Fz} {g : List GE} {w : World} {H : Hp}

theorem OpOk.mem {r : Sem Value} {Q : AV → Hp → Prop} {σ : AV} {H' : Hp} {v : Value} {w' : World} {F' : Fz} {g' : List GE} (hr : r.run P w = .ok v w') (hQ : Q σ H') (hv : VR2 F' w' g' σ v)
    (hg : Gr B F g w F' g' w') (hH : HR B F' w' g' H') : OpOk B F g w ((do pure (.value (← r)) : Sem Next).run P w) Q :=
  ⟨σ, H', v, w', F', g', hQ, .inl (by simp only [Sem.run_bind, hr, Result.andThen]; rfl), hv, hg, hH⟩

theorem VR0_2 {x : AV} {v : Value} (h : VR0 F w g x v) : VR2 F w g x v := by
  cases x <;> first | exact h | exact h.elim | (obtain ⟨rfl, rfl⟩ := h; exact ⟨#[], rfl, .nil⟩)
theorem VR1_2 {x : AV} {v : Value} (h : VR1 F w g x v) : VR2 F w g x v := by
  cases x <;> first | exact h | exact h.elim
theorem VR2_1 {x : AV} {v : Value} (h : VR2 F w g x v) (hx : ∀ cs, x ≠ .tup cs) : VR1 F w g x v := by
  cases x <;> first | exact h | exact absurd rfl (hx _)
theorem VR2_sol {x : AV} {v : Value} (h : VR2 F w g x v) (hx : solid x = true) : VR1 F w g x v := VR2_1 h fun cs e => by subst e; cases hx
theorem VR2_ptr {x : AV} {v : Value} (h : VR2 F w g x v) (hx : ∀ agg size, ∃ y, loadP H agg size x = some y → True) : True := trivial

/-- the parts of a literal of a slice -/
theorem parts_ok {t : Ty} (hH : HR B F w g H) {ρ : Operand → AV} {ρc : Operand → Value} (ids : List Nat) : ∀ (parts : List (Nat × Operand)) (ps : List (Nat × t.den)) (cells : Array Value) (l : List t.den),
    partsTy H t ρ parts = some ps → (∀ p ∈ parts, VR2 F w g (ρ p.2) (ρc p.2)) → (∀ p ∈ parts, p.1 < l.length) → (∀ p ∈ parts, ∀ i ∈ ownIds (cellsOf (ρ p.2)), i ∈ ids) →
    Laid (lendF F g H ids) w t cells l →
    ∃ cells', Instr.fill (fun i => some (i * t.size, t.size)) cells (parts.map fun p => (p.1, ρc p.2)) = some cells' ∧ Laid (lendF F g H ids) w t cells' (fillElems ps l)
  | [], ps, cells, l, h, _, _, _, hl => by
    cases h
    exact ⟨cells, rfl, hl⟩
  | (i, x) :: r, ps, cells, l, h, hx, hi, hids, hl => by
    simp only [partsTy] at h
    split at h
    · rename_i v hv
      split at h
      · rename_i rest hrest
        cases h
        have hsol : solid (ρ x) = true := by
          unfold asTy at hv
          split at hv
          · rename_i h1 _; simp only [Bool.and_eq_true] at h1; exact h1.1
          · cases hv
        have hcr := CR_lend (hids (i, x) (by simp)) (asTy_ok hv (VR2_sol (hx (i, x) (by simp)) hsol) hH)
        have hlen := CR_len _ _ _ hcr
        have hil := hi (i, x) (by simp)
        have hfit : i * t.size + t.size ≤ cells.size := by
          have a : (i + 1) * t.size ≤ l.length * t.size := Nat.mul_le_mul_right _ hil
          rw [Nat.add_mul, Nat.one_mul] at a
          have := hl.1
          omega
        obtain ⟨cells', hc', hfill⟩ := fill_cons (place := fun i => some (i * t.size, t.size)) (cells := cells) (i := i) (v := ρc x) (rest := r.map fun p => (p.1, ρc p.2)) rfl (by simpa using hlen) hfit
        have hl' := laid_set (cells' := cells') hl hil hcr (by rw [hlen]; exact hc')
        obtain ⟨cells'', h1, h2⟩ := parts_ok hH ids r rest cells' _ hrest (fun p hp => hx p (by simp [hp])) (fun p hp => by simpa using hi p (by simp [hp])) (fun p hp => hids p (by simp [hp])) hl'
        exact ⟨cells'', by rw [List.map_cons]; exact hfill.trans h1, h2⟩
      · cases h
    · cases h

theorem fillElems_len {β : Type} : ∀ (ps : List (Nat × β)) (l : List β), (fillElems ps l).length = l.length
  | [], _ => rfl
  | (i, x) :: r, l => by simp [fillElems, fillElems_len r]

theorem buildSlice_ok {t : TypeId} {e : TypeId} (ht : TiOk P E t) (hd : (E.ti t).d = .slice e) {len : Nat} {parts : Array (Nat × Operand)} {ρ : Operand → AV} {ρc : Operand → Value} {K : AV → Hp → Option α} {r : α}
    (h : opK E (.buildSlice t len parts) ρ H K = some r) (hx : ∀ p ∈ parts.toList, VR2 F w g (ρ p.2) (ρc p.2)) (hH : HR B F w g H) (hB : Bs B w) :
    ∃ σ H' y w' F' g', K σ H' = some r ∧ (Instr.buildSlice t len (parts.map fun (i, x) => (i, ρc x))).run P w = .ok y w' ∧ VR2 F' w' g' σ y ∧ Gr B F g w F' g' w' ∧ HR B F' w' g' H' := by
  simp only [opK, hd] at h
  obtain ⟨i, z, hi, hsz, hby, hsz2, hz, hzr⟩ := ht.elem e (.inl hd)
  have hu := ht.slice e hd
  split at h
  · rename_i ps hps hchk
    simp only [Bool.and_eq_true, List.all_eq_true] at hchk
    obtain ⟨hlt, hsmall⟩ := hchk
    have hsmall := Nat.le_of_ble_eq_true hsmall
    have hlt : ∀ p ∈ parts.toList, p.1 < len := fun p hp => by
      have := hlt p hp
      exact Nat.lt_of_lt_of_le (Nat.lt_succ_self _) (Nat.le_of_ble_eq_true this)
    have hH1 := lend_HR hH (ownIds (parts.toList.flatMap fun p => cellsOf (ρ p.2)))
    have hg1 := lend_gr hH (ownIds (parts.toList.flatMap fun p => cellsOf (ρ p.2)))
    have hsm : ¬ (len * i.size > 2 ^ 24) := by rw [hsz]; omega
    obtain ⟨cells, hfill, hlaid⟩ := parts_ok (ρc := ρc) hH (ownIds (parts.toList.flatMap fun p => cellsOf (ρ p.2))) parts.toList ps
      ((Array.range (len * (E.ti e).ty.size)).map (z.cells[· % z.cells.size]!)) (List.replicate len (E.ti e).ty.dft) hps hx (fun p hp => by simpa using hlt p hp)
      (fun p hp q hq => by
        simp only [ownIds, List.mem_filterMap] at hq ⊢
        obtain ⟨v, hv, h2⟩ := hq
        exact ⟨v, List.mem_flatMap.2 ⟨p, hp, hv⟩, h2⟩) (laid_zero (hzr _ _) len)
    have hrun : (Instr.buildSlice t len (parts.map fun (i, x) => (i, ρc x))).run P w = .ok (.slice (some ⟨w.heap.size, 0, none⟩) len len) (w.alloc (.cells cells e)) := by
      have hpl : (parts.map fun (i, x) => (i, ρc x)).toList = parts.toList.map fun p => (p.1, ρc p.2) := by simp
      by_cases h0 : len * i.size = 0
      · have harr : (Array.range (len * i.size)).map ((#[] : Array Value)[· % (#[] : Array Value).size]!) = (Array.range (len * (E.ti e).ty.size)).map (z.cells[· % z.cells.size]!) := by
          rw [← hsz, h0]; apply Array.ext <;> simp
        simp only [Instr.buildSlice, Sem.run_bind, run_underlying hu, Result.andThen, run_sizeOf hi, if_neg hsm, if_pos h0, Sem.run_pure, hpl, harr]
        rw [hsz, hfill]
        rfl
      · have hz0 : (zeroValue e).run P w = .ok z w := by simp [zeroValue, typeInfo, program, Sem.run_bind, Sem.run, hi, hz, Result.andThen]
        simp only [Instr.buildSlice, Sem.run_bind, run_underlying hu, Result.andThen, run_sizeOf hi, if_neg hsm, if_neg h0, Sem.run_pure, hpl, hz0]
        rw [hsz, hfill]
        rfl
    split at h
    · obtain ⟨g', a, b, k⟩ := new_arr (t := (E.ti e).ty) false (l := []) (cells := cells) (el := e) (cap := 0) hH hB (News.refl w) (Nat.le_refl _) (by simp) (fun i x hx => by simp at hx)
      exact ⟨_, _, _, _, F, g', h, hrun, k, a, b⟩
    · rename_i hne
      obtain ⟨F', a, b, k⟩ := new_ro (el := e) hH1 hB (News.refl w) hlaid
      simp only [fillElems_len, List.length_replicate] at k
      exact ⟨_, _, _, _, F', g, h, hrun, VR0_2 k, hg1.trans a, b⟩
  · cases h
end
end Go.Proofs.YtjklgmflillagaaDoor.Ev
