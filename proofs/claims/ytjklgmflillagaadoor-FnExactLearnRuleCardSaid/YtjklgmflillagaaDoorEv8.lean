/- The operations that make memory. -/
import Derived.Test.YtjklgmflillagaaDoorEv7
namespace Go.Proofs.YtjklgmflillagaaDoor.Ev
open Go Go.RowKit
set_option linter.unusedVariables false
set_option linter.unusedSimpArgs false

section
variable {α : Type} {P : Program} {E : Env} {B : Nat → Prop} {F : Fz} {g : List GE} {w : World} {H : Hp}

theorem foldl_put (off : Nat) : ∀ (vs : List Value) (k : Nat) (cells : Array Value), off + k + vs.length ≤ cells.size →
    ((vs.zipIdx k).foldl (fun cs (p : Value × Nat) => cs.setIfInBounds (off + p.2) p.1) cells).toList = cells.toList.take (off + k) ++ vs ++ cells.toList.drop (off + k + vs.length)
  | [], k, cells, h => by simp
  | v :: vs, k, cells, h => by
    simp only [List.length_cons] at h
    simp only [List.zipIdx_cons, List.foldl_cons]
    rw [foldl_put off vs (k + 1) _ (by simp; omega)]
    have hl : off + k < cells.toList.length := by simp; omega
    have h1 : (cells.toList.take (off + k)).length = off + k := by simp; omega
    have e0 : (cells.setIfInBounds (off + k) v).toList = (cells.toList.take (off + k) ++ [v]) ++ cells.toList.drop (off + k + 1) := by
      rw [Array.toList_setIfInBounds, List.set_eq_take_append_cons_drop, if_pos hl]; simp
    have h2 : (cells.toList.take (off + k) ++ [v]).length = off + (k + 1) := by rw [List.length_append, h1]; rfl
    rw [e0, List.take_left' h2, ← List.drop_drop, List.drop_left' h2, List.drop_drop]
    simp only [List.append_assoc, List.cons_append, List.nil_append, List.length_cons]
    rw [show off + k + 1 + vs.length = off + k + (vs.length + 1) by omega]

/-- one part of a literal, as the machine lays it -/
theorem fill_cons {place : Nat → Option (Nat × Nat)} {cells : Array Value} {i off size : Nat} {v : Value} {rest : List (Nat × Value)}
    (hp : place i = some (off, size)) (hs : v.cells.size = size) (hl : off + size ≤ cells.size) :
    ∃ cells' : Array Value, cells'.toList = cells.toList.take off ++ v.cells.toList ++ cells.toList.drop (off + size) ∧ Instr.fill place cells ((i, v) :: rest) = Instr.fill place cells' rest := by
  refine ⟨v.cells.zipIdx.foldl (fun cs (c, j) => cs.setIfInBounds (off + j) c) cells, ?_, ?_⟩
  · have := foldl_put off v.cells.toList 0 cells (by simp; omega)
    rw [← Array.foldl_toList, Array.toList_zipIdx]
    simp only [Nat.add_zero] at this
    rw [show off + size = off + v.cells.toList.length by simp [hs]]
    exact this
  · have h1 : ¬ ((decide (v.cells.size ≠ size) || decide (off + v.cells.size > cells.size)) = true) := by
      simp [hs]; omega
    simp only [Instr.fill, hp]
    rw [if_neg h1]

theorem build_ok {t : TypeId} (ht : TiOk P E t) {ρ : Operand → AV} {ρc : Operand → Value} {fs : Array Field}
    (hu : P.underlying t = some (.struct fs)) (places : Array (Nat × Nat))
    (hpl : ∀ (f off size : Nat) (agg : Bool), (E.ti t).flds[f]? = some (off, size, agg) → places[f]? = some (off, size)) :
    ∀ (parts : List (Nat × Operand)) (cs : List AV) (cells : Array Value) (cs' : List AV), All2 (VR0 F w g) cs cells.toList → (∀ p ∈ parts, VR1 F w g (ρ p.2) (ρc p.2)) →
      fillCells (E.ti t).flds ρ parts cs = some cs' → ∃ cells', Instr.fill (places[·]?) cells (parts.map fun p => (p.1, ρc p.2)) = some cells' ∧ All2 (VR0 F w g) cs' cells'.toList
  | [], cs, cells, cs', h, _, hf => by
    simp only [fillCells] at hf
    cases hf
    exact ⟨cells, rfl, h⟩
  | (i, x) :: r, cs, cells, cs', h, hx, hf => by
    simp only [fillCells] at hf
    split at hf
    · rename_i off size agg hfl
      split at hf
      · rename_i hc
        simp only [Bool.and_eq_true] at hc
        obtain ⟨⟨hc0, hc1⟩, hc2⟩ := hc
        have hc2 := Nat.le_of_ble_eq_true hc2
        have hc1 := eq_of_beq hc1
        obtain ⟨hcells, _⟩ := solid_cells hc0 (hx (i, x) (by simp))
        have hlen := h.length
        have hsz : (ρc x).cells.size = size := by rw [← Array.length_toList, ← hcells.length]; exact hc1
        have hcl : cells.toList.length = cells.size := by simp
        obtain ⟨cells', hc', hfill⟩ := fill_cons (place := (places[·]?)) (cells := cells) (rest := r.map fun p => (p.1, ρc p.2)) (hpl i off size agg hfl) hsz (by omega)
        have hA : All2 (VR0 F w g) (cs.take off ++ cellsOf (ρ x) ++ cs.drop (off + size)) cells'.toList := by
          rw [hc']
          exact ((h.take off).append hcells).append (h.drop (off + size))
        obtain ⟨cells'', h1, h2⟩ := build_ok ht hu places hpl r _ cells' cs' hA (fun p hp => hx p (by simp [hp])) hf
        exact ⟨cells'', by rw [List.map_cons]; exact hfill.trans h1, h2⟩
      · cases hf
    · cases hf

/-- Cells that hold plain elements, one behind the other. -/
def Laid (F : Fz) (w : World) (t : Ty) (cells : Array Value) (l : List t.den) : Prop :=
  cells.size = l.length * t.size ∧ ∀ i x, l[i]? = some x → ∃ us, CR F w t x us ∧ ∀ j u, us[j]? = some u → cells[i * t.size + j]? = some u

theorem laid_set {t : Ty} {cells cells' : Array Value} {l : List t.den} {i : Nat} {x : t.den} {us : List Value} (h : Laid F w t cells l) (hi : i < l.length) (hx : CR F w t x us)
    (hc : cells'.toList = cells.toList.take (i * t.size) ++ us ++ cells.toList.drop (i * t.size + us.length)) : Laid F w t cells' (l.set i x) := by
  obtain ⟨h1, h2⟩ := h
  have hul := CR_len _ _ _ hx
  have hin : i * t.size + us.length ≤ cells.toList.length := by
    have h10 : (i + 1) * t.size ≤ l.length * t.size := Nat.mul_le_mul_right _ (by omega)
    rw [Nat.add_mul, Nat.one_mul] at h10
    simp; omega
  refine ⟨?_, fun k y hy => ?_⟩
  · rw [← Array.length_toList, hc]
    simp at hin ⊢
    omega
  · by_cases hk : k = i
    · subst hk
      rw [List.getElem?_set_self hi] at hy
      cases hy
      refine ⟨us, hx, fun j u hj => ?_⟩
      have := idx_lt hj
      rw [← Array.getElem?_toList, hc, splice_get hin, if_neg (by omega), if_pos (by omega), show k * t.size + j - k * t.size = j by omega]
      exact hj
    · rw [List.getElem?_set_ne (fun h => hk h.symm)] at hy
      obtain ⟨us', ha, hb⟩ := h2 k y hy
      refine ⟨us', ha, fun j u hj => ?_⟩
      have hj' := idx_lt hj
      rw [CR_len _ _ _ ha] at hj'
      rw [← Array.getElem?_toList, hc, splice_get hin]
      have hout : k * t.size + j < i * t.size ∨ i * t.size + us.length ≤ k * t.size + j := by
        rcases Nat.lt_or_gt_of_ne hk with hlt | hgt
        · have := mul_lt_of hlt hj'
          left; omega
        · have : (i + 1) * t.size ≤ k * t.size := Nat.mul_le_mul_right _ hgt
          rw [Nat.add_mul, Nat.one_mul] at this
          right; omega
      rcases hout with ho | ho
      · rw [if_pos ho, Array.getElem?_toList]; exact hb j u hj
      · rw [if_neg (by omega), if_neg (by omega), Array.getElem?_toList]; exact hb j u hj

/-- zeros, one behind the other -/
theorem laid_zero {t : Ty} {z : Array Value} (hz : CR F w t t.dft z.toList) (n : Nat) : Laid F w t ((Array.range (n * t.size)).map (z[· % z.size]!)) (List.replicate n t.dft) := by
  have hzl : z.size = t.size := by have := CR_len _ _ _ hz; simpa using this
  refine ⟨by simp, fun i x hx => ?_⟩
  have hi := idx_lt hx
  simp only [List.length_replicate] at hi
  rw [List.getElem?_replicate, if_pos hi] at hx
  cases hx
  refine ⟨z.toList, hz, fun j u hj => ?_⟩
  have hj' := idx_lt hj
  simp only [Array.length_toList] at hj'
  have hlt := mul_lt_of (sz := t.size) hi (by omega : j < t.size)
  have hmod : (i * t.size + j) % z.size = j := by
    rw [hzl, Nat.add_comm, Nat.add_mul_mod_self_right, Nat.mod_eq_of_lt (by omega)]
  rw [Array.getElem?_map, Array.getElem?_range, if_pos hlt]
  simp only [Option.map_some, hmod, Option.some.injEq]
  rw [Array.getElem?_toList] at hj
  simp [hj', Array.getElem?_eq_getElem hj'] at hj ⊢
  exact hj

theorem alloc_get (w : World) (o : Obj) : (w.alloc o).heap[w.heap.size]? = some o := by
  show (w.heap.push o)[w.heap.size]? = some o
  simp

/-- A new own block of plain elements. -/
theorem new_arr {t : Ty} (s : Bool) {l : List t.den} {cells : Array Value} {el : TypeId} {cap : Nat} {w1 : World} (hH : HR B F w g H) (hB : Bs B w) (hn : News w w1)
    (hcap : l.length ≤ cap) (hsz : cap * t.size ≤ cells.size)
    (hel : ∀ i x, l[i]? = some x → ∃ us, CR F w t x us ∧ ∀ j u, us[j]? = some u → cells[i * t.size + j]? = some u) :
    ∃ g', Gr B F g w F g' (w1.alloc (.cells cells el)) ∧ HR B F (w1.alloc (.cells cells el)) g' (H ++ [.arr t l s]) ∧
      VR0 F (w1.alloc (.cells cells el)) g' (.all H.length t.size l.length) (.slice (some ⟨w1.heap.size, 0, none⟩) l.length cap) := by
  have hn' := hn.trans (News.alloc w1 (.cells cells el))
  have hs := hn.size
  obtain ⟨h1, h2⟩ := HR_new (e := ⟨⟨w1.heap.size, 0, none⟩, t.size, cap, l.length⟩) (b := .arr t l s) hH hB hn' (fun hg => by
    refine ⟨rfl, rfl, hcap, rfl, fun _ => ⟨cells, el, alloc_get w1 _, by simpa using hsz, fun i x hx => ?_⟩⟩
    obtain ⟨us, ha, hb⟩ := hel i x hx
    exact ⟨us, CR_gr hg ha, fun j u hj => by simpa using hb j u hj⟩) (fun _ => ⟨hs, by simp⟩)
  refine ⟨_, h1, h2, ⟨⟨w1.heap.size, 0, none⟩, t.size, cap, l.length⟩, some ⟨w1.heap.size, 0, none⟩, ?_, rfl, rfl, rfl, rfl, fun _ => rfl, hcap⟩
  rw [← hH.len, List.getElem?_append_right (Nat.le_refl _)]; simp

/-- A new row that is given for reading at once. -/
theorem new_ro {t : Ty} {l : List t.den} {cells : Array Value} {el : TypeId} {w1 : World} (hH : HR B F w g H) (hB : Bs B w) (hn : News w w1) (hl : Laid F w t cells l) :
    ∃ F', Gr B F g w F' g (w1.alloc (.cells cells el)) ∧ HR B F' (w1.alloc (.cells cells el)) g H ∧
      VR0 F' (w1.alloc (.cells cells el)) g (.sl t l) (.slice (some ⟨w1.heap.size, 0, none⟩) l.length l.length) := by
  have hn' := hn.trans (News.alloc w1 (.cells cells el))
  have hs := hn.size
  have h0 := hn'.gr hH hB
  have hH' := hn'.HR hH hB
  let F' : Fz := fun b o => F b o ∨ b = w1.heap.size
  have hg : Gr B F g w F' g (w1.alloc (.cells cells el)) := ⟨fun _ _ h => .inl h, fun b o h => h.elim .inl (fun h => .inr (by subst h; exact hB.out hs)), h0.cell, h0.ext, h0.below⟩
  have hgg : Gr B F g (w1.alloc (.cells cells el)) F' g (w1.alloc (.cells cells el)) := ⟨fun _ _ h => .inl h, fun b o h => h.elim .inl (fun h => .inr (by subst h; exact hB.out hs)), fun _ _ _ _ h => h, fun _ _ h => h, Sam.refl _ _⟩
  refine ⟨F', hg, ⟨hH.len, fun i b e hb he => BR_gr hgg (fun _ => rfl) (hH'.blk i b e hb he), hH'.own, hH.sep, fun k o hk => ?_⟩, ?_⟩
  · rcases hk with hk | rfl
    · exact hH'.frz k o hk
    · refine ⟨by simp, fun i b e hb he hr hbk => ?_⟩
      have := (hH.own i b e hb he hr).2
      omega
  · obtain ⟨h1, h2⟩ := hl
    simp only [VR0, CR]
    refine ⟨_, _, rfl, Nat.le_refl _, fun i x hx => ⟨_, rfl, rfl, ?_⟩⟩
    obtain ⟨us, ha, hb⟩ := h2 i x hx
    refine ⟨us, CR_gr hg ha, CR_len _ _ _ ha, fun j u hj => ⟨.inr rfl, ?_⟩⟩
    rw [World.cell?_alloc_new]
    simpa using hb j u hj

/-- A new variable. -/
theorem new_var {cs : List AV} {cells : Array Value} {el : TypeId} (hH : HR B F w g H) (hB : Bs B w) (hc : All2 (VR0 F w g) cs cells.toList) :
    ∃ g', Gr B F g w F g' (w.alloc (.cells cells el)) ∧ HR B F (w.alloc (.cells cells el)) g' (H ++ [.var cs]) ∧
      VR0 F (w.alloc (.cells cells el)) g' (.ptr H.length 0) (.pointer (some ⟨w.heap.size, 0, none⟩)) := by
  obtain ⟨h1, h2⟩ := HR_new (e := ⟨⟨w.heap.size, 0, none⟩, 0, 0, 0⟩) (b := .var cs) hH hB (News.alloc w (.cells cells el)) (fun hg =>
    ⟨rfl, rfl, cells, el, alloc_get w _, hc.mono fun _ _ => VR0_gr hg⟩) (fun _ => ⟨Nat.le_refl _, by simp⟩)
  refine ⟨_, h1, h2, ⟨⟨w.heap.size, 0, none⟩, 0, 0, 0⟩, ?_, rfl⟩
  rw [← hH.len, List.getElem?_append_right (Nat.le_refl _)]; simp

end
end Go.Proofs.YtjklgmflillagaaDoor.Ev
