/- The evaluator: Ev8, Ev9, Ev10, Ev11, Ev11b, Ev12. -/
import Derived.Test.YtmojilihllhadaaGreatDoorEv7
import Derived.ArgAppend
/- The operations that make memory. -/
namespace Go.Proofs.YtmojilihllhadaaGreatDoor.Ev
open Go Go.RowKit
set_option linter.unusedVariables false
set_option linter.unusedSimpArgs false
section
variable {α : Type} {P : Program} {E : Env} {B : Nat → Prop} {F : Fz} {g : List GE} {w : World} {H : Hp}
theorem foldl_put (off : Nat) : ∀ (vs : List Value) (k : Nat) (cells : Array Value), off + k + vs.length ≤ cells.size →
    ((vs.zipIdx k).foldl (fun cs (p : Value × Nat) => cs.setIfInBounds (off + p.2) p.1) cells).toList = cells.toList.take (off + k) ++ vs ++ cells.toList.drop (off + k + vs.length)
  | [], k, cells, h => by simp
  | v :: vs, k, cells, h => by
    simp only [List.length_cons] at h
    simp only [List.zipIdx_cons, List.foldl_cons]
    rw [foldl_put off vs (k + 1) _ (by simp; omega)]
    have hl : off + k < cells.toList.length := by simp; omega
    have h1 : (cells.toList.take (off + k)).length = off + k := by simp; omega
    have e0 : (cells.setIfInBounds (off + k) v).toList = (cells.toList.take (off + k) ++ [v]) ++ cells.toList.drop (off + k + 1) := by
      rw [Array.toList_setIfInBounds, List.set_eq_take_append_cons_drop, if_pos hl]; simp
    have h2 : (cells.toList.take (off + k) ++ [v]).length = off + (k + 1) := by rw [List.length_append, h1]; rfl
    rw [e0, List.take_left' h2, ← List.drop_drop, List.drop_left' h2, List.drop_drop]
    simp only [List.append_assoc, List.cons_append, List.nil_append, List.length_cons]
    rw [show off + k + 1 + vs.length = off + k + (vs.length + 1) by omega]
theorem fill_cons {place : Nat → Option (Nat × Nat)} {cells : Array Value} {i off size : Nat} {v : Value} {rest : List (Nat × Value)}
    (hp : place i = some (off, size)) (hs : v.cells.size = size) (hl : off + size ≤ cells.size) :
    ∃ cells' : Array Value, cells'.toList = cells.toList.take off ++ v.cells.toList ++ cells.toList.drop (off + size) ∧ Instr.fill place cells ((i, v) :: rest) = Instr.fill place cells' rest := by
  refine ⟨v.cells.zipIdx.foldl (fun cs (c, j) => cs.setIfInBounds (off + j) c) cells, ?_, ?_⟩
  · have := foldl_put off v.cells.toList 0 cells (by simp; omega)
    rw [← Array.foldl_toList, Array.toList_zipIdx]
    simp only [Nat.add_zero] at this
    rw [show off + size = off + v.cells.toList.length by simp [hs]]
    exact this
  · have h1 : ¬ ((decide (v.cells.size ≠ size) || decide (off + v.cells.size > cells.size)) = true) := by
      simp [hs]; omega
    simp only [Instr.fill, hp]
    rw [if_neg h1]
theorem build_ok {flds : List (Nat × Nat × Bool)} {place : Nat → Option (Nat × Nat)} {ρ : Operand → AV} {ρc : Operand → Value}
    (hpl : ∀ (f off size : Nat) (agg : Bool), flds[f]? = some (off, size, agg) → place f = some (off, size)) :
    ∀ (parts : List (Nat × Operand)) (cs : List AV) (cells : Array Value) (cs' : List AV), All2 (VR0 F w g) cs cells.toList → (∀ p ∈ parts, VR1 F w g (ρ p.2) (ρc p.2)) →
      fillCells flds ρ parts cs = some cs' → ∃ cells', Instr.fill place cells (parts.map fun p => (p.1, ρc p.2)) = some cells' ∧ All2 (VR0 F w g) cs' cells'.toList
  | [], cs, cells, cs', h, _, hf => by
    simp only [fillCells] at hf
    cases hf
    exact ⟨cells, rfl, h⟩
  | (i, x) :: r, cs, cells, cs', h, hx, hf => by
    simp only [fillCells] at hf
    split at hf
    · rename_i off size agg hfl
      split at hf
      · rename_i hc
        simp only [Bool.and_eq_true] at hc
        obtain ⟨⟨hc0, hc1⟩, hc2⟩ := hc
        have hc2 := Nat.le_of_ble_eq_true hc2
        have hc1 := eq_of_beq hc1
        obtain ⟨hcells, _⟩ := solid_cells hc0 (hx (i, x) (by simp))
        have hlen := h.length
        have hsz : (ρc x).cells.size = size := by rw [← Array.length_toList, ← hcells.length]; exact hc1
        have hcl : cells.toList.length = cells.size := by simp
        obtain ⟨cells', hc', hfill⟩ := fill_cons (place := place) (cells := cells) (rest := r.map fun p => (p.1, ρc p.2)) (hpl i off size agg hfl) hsz (by omega)
        have hA : All2 (VR0 F w g) (cs.take off ++ cellsOf (ρ x) ++ cs.drop (off + size)) cells'.toList := by
          rw [hc']
          exact ((h.take off).append hcells).append (h.drop (off + size))
        obtain ⟨cells'', h1, h2⟩ := build_ok hpl r _ cells' cs' hA (fun p hp => hx p (by simp [hp])) hf
        exact ⟨cells'', by rw [List.map_cons]; exact hfill.trans h1, h2⟩
      · cases hf
    · cases hf
def Laid (F : Fz) (w : World) (t : Ty) (cells : Array Value) (l : List t.den) : Prop :=
  cells.size = l.length * t.size ∧ ∀ i x, l[i]? = some x → ∃ us, CR F w t x us ∧ ∀ j u, us[j]? = some u → cells[i * t.size + j]? = some u
theorem laid_set {t : Ty} {cells cells' : Array Value} {l : List t.den} {i : Nat} {x : t.den} {us : List Value} (h : Laid F w t cells l) (hi : i < l.length) (hx : CR F w t x us)
    (hc : cells'.toList = cells.toList.take (i * t.size) ++ us ++ cells.toList.drop (i * t.size + us.length)) : Laid F w t cells' (l.set i x) := by
  obtain ⟨h1, h2⟩ := h
  have hul := CR_len _ _ _ hx
  have hin : i * t.size + us.length ≤ cells.toList.length := by
    have h10 : (i + 1) * t.size ≤ l.length * t.size := Nat.mul_le_mul_right _ (by omega)
    rw [Nat.add_mul, Nat.one_mul] at h10
    simp; omega
  refine ⟨?_, fun k y hy => ?_⟩
  · rw [← Array.length_toList, hc]
    simp at hin ⊢
    omega
  · by_cases hk : k = i
    · subst hk
      rw [List.getElem?_set_self hi] at hy
      cases hy
      refine ⟨us, hx, fun j u hj => ?_⟩
      have := idx_lt hj
      rw [← Array.getElem?_toList, hc, splice_get hin, if_neg (by omega), if_pos (by omega), show k * t.size + j - k * t.size = j by omega]
      exact hj
    · rw [List.getElem?_set_ne (fun h => hk h.symm)] at hy
      obtain ⟨us', ha, hb⟩ := h2 k y hy
      refine ⟨us', ha, fun j u hj => ?_⟩
      have hj' := idx_lt hj
      rw [CR_len _ _ _ ha] at hj'
      rw [← Array.getElem?_toList, hc, splice_get hin]
      have hout : k * t.size + j < i * t.size ∨ i * t.size + us.length ≤ k * t.size + j := by
        rcases Nat.lt_or_gt_of_ne hk with hlt | hgt
        · have := mul_lt_of hlt hj'
          left; omega
        · have : (i + 1) * t.size ≤ k * t.size := Nat.mul_le_mul_right _ hgt
          rw [Nat.add_mul, Nat.one_mul] at this
          right; omega
      rcases hout with ho | ho
      · rw [if_pos ho, Array.getElem?_toList]; exact hb j u hj
      · rw [if_neg (by omega), if_neg (by omega), Array.getElem?_toList]; exact hb j u hj
theorem laid_zero {t : Ty} {z : Array Value} (hz : CR F w t t.dft z.toList) (n : Nat) : Laid F w t ((Array.range (n * t.size)).map (z[· % z.size]!)) (List.replicate n t.dft) := by
  have hzl : z.size = t.size := by have := CR_len _ _ _ hz; simpa using this
  refine ⟨by simp, fun i x hx => ?_⟩
  have hi := idx_lt hx
  simp only [List.length_replicate] at hi
  rw [List.getElem?_replicate, if_pos hi] at hx
  cases hx
  refine ⟨z.toList, hz, fun j u hj => ?_⟩
  have hj' := idx_lt hj
  simp only [Array.length_toList] at hj'
  have hlt := mul_lt_of (sz := t.size) hi (by omega : j < t.size)
  have hmod : (i * t.size + j) % z.size = j := by
    rw [hzl, Nat.add_comm, Nat.add_mul_mod_self_right, Nat.mod_eq_of_lt (by omega)]
  rw [Array.getElem?_map, Array.getElem?_range, if_pos hlt]
  simp only [Option.map_some, hmod, Option.some.injEq]
  rw [Array.getElem?_toList] at hj
  simp [hj', Array.getElem?_eq_getElem hj'] at hj ⊢
  exact hj
theorem alloc_get (w : World) (o : Obj) : (w.alloc o).heap[w.heap.size]? = some o := by
  show (w.heap.push o)[w.heap.size]? = some o
  simp
theorem new_arr {t : Ty} (s : Bool) {l : List t.den} {cells : Array Value} {el : TypeId} {cap : Nat} {w1 : World} (hu : t = .int .u8 → el = u8T) (hH : HR B F w g H) (hB : Bs B w) (hn : News w w1)
    (hcap : l.length ≤ cap) (hsz : cap * t.size ≤ cells.size)
    (hel : ∀ i x, l[i]? = some x → ∃ us, CR F w t x us ∧ ∀ j u, us[j]? = some u → cells[i * t.size + j]? = some u) :
    ∃ g', Gr B F g w F g' (w1.alloc (.cells cells el)) ∧ HR B F (w1.alloc (.cells cells el)) g' (H ++ [.arr t l s]) ∧
      VR0 F (w1.alloc (.cells cells el)) g' (.all H.length t.size l.length) (.slice (some ⟨w1.heap.size, 0, none⟩) l.length cap) := by
  have hn' := hn.trans (News.alloc w1 (.cells cells el))
  have hs := hn.size
  obtain ⟨h1, h2⟩ := HR_new (e := ⟨⟨w1.heap.size, 0, none⟩, t.size, cap, l.length⟩) (b := .arr t l s) hH hB hn' (fun hg => by
    refine ⟨rfl, rfl, hcap, rfl, fun _ => ⟨cells, el, alloc_get w1 _, hu, by simpa using hsz, fun i x hx => ?_⟩⟩
    obtain ⟨us, ha, hb⟩ := hel i x hx
    exact ⟨us, CR_gr hg ha, fun j u hj => by simpa using hb j u hj⟩) (fun _ => ⟨hs, by simp⟩)
  refine ⟨_, h1, h2, ⟨⟨w1.heap.size, 0, none⟩, t.size, cap, l.length⟩, some ⟨w1.heap.size, 0, none⟩, ?_, rfl, rfl, rfl, rfl, fun _ => rfl, hcap⟩
  rw [← hH.len, List.getElem?_append_right (Nat.le_refl _)]; simp
theorem new_ro {t : Ty} {l : List t.den} {cells : Array Value} {el : TypeId} {w1 : World} (hH : HR B F w g H) (hB : Bs B w) (hn : News w w1) (hl : Laid F w t cells l) :
    ∃ F', Gr B F g w F' g (w1.alloc (.cells cells el)) ∧ HR B F' (w1.alloc (.cells cells el)) g H ∧
      VR0 F' (w1.alloc (.cells cells el)) g (.sl t l) (.slice (some ⟨w1.heap.size, 0, none⟩) l.length l.length) := by
  have hn' := hn.trans (News.alloc w1 (.cells cells el))
  have hs := hn.size
  have h0 := hn'.gr hH hB
  have hH' := hn'.HR hH hB
  let F' : Fz := fun b o => F b o ∨ b = w1.heap.size
  have hg : Gr B F g w F' g (w1.alloc (.cells cells el)) := ⟨fun _ _ h => .inl h, fun b o h => h.elim .inl (fun h => .inr (by subst h; exact hB.out hs)), h0.cell, h0.ext, h0.below⟩
  have hgg : Gr B F g (w1.alloc (.cells cells el)) F' g (w1.alloc (.cells cells el)) := ⟨fun _ _ h => .inl h, fun b o h => h.elim .inl (fun h => .inr (by subst h; exact hB.out hs)), fun _ _ _ _ h => h, fun _ _ h => h, Sam.refl _ _⟩
  refine ⟨F', hg, ⟨hH.len, fun i b e hb he => BR_gr hgg (fun _ => rfl) (hH'.blk i b e hb he), hH'.own, hH.sep, fun k o hk => ?_⟩, ?_⟩
  · rcases hk with hk | rfl
    · exact hH'.frz k o hk
    · refine ⟨by simp, fun i b e hb he hr hbk => ?_⟩
      have := (hH.own i b e hb he hr).2
      omega
  · obtain ⟨h1, h2⟩ := hl
    simp only [VR0, CR]
    refine ⟨_, _, rfl, Nat.le_refl _, fun i x hx => ⟨_, rfl, rfl, ?_⟩⟩
    obtain ⟨us, ha, hb⟩ := h2 i x hx
    refine ⟨us, CR_gr hg ha, CR_len _ _ _ ha, fun j u hj => ⟨.inr rfl, ?_⟩⟩
    rw [World.cell?_alloc_new]
    simpa using hb j u hj
theorem arrK_ok {sz n : Nat} {t : Ty} {cs : List AV} {cells : Array Value} {el : TypeId} {K : AV → Hp → Option α} {r : α} (h : arrK sz t n cs H K = some r) (hH : HR B F w g H) (hB : Bs B w) (hc : All2 (VR0 F w g) cs cells.toList) :
    ∃ σ H' g', K σ H' = some r ∧ Gr B F g w F g' (w.alloc (.cells cells el)) ∧ HR B F (w.alloc (.cells cells el)) g' H' ∧ VR0 F (w.alloc (.cells cells el)) g' σ (.pointer (some ⟨w.heap.size, 0, none⟩)) := by
  unfold arrK at h
  split at h
  · rename_i l hq hl
    simp only [Bool.and_eq_true, Bool.not_eq_true'] at hq
    obtain ⟨⟨⟨h1, h2⟩, h3⟩, h4⟩ := hq
    obtain ⟨k1, k2, k3⟩ := rowsOf_ok h2 n cs cells.toList l hl hc
    have h4 : 0 < n := by simpa [Nat.blt_eq] using h4
    obtain ⟨g', a, b, e, A, q1, q2, q3, q4, q5, q6, q7⟩ := new_arr (t := t) false (l := l) (cells := cells) (el := el) (cap := l.length) (fun hu => by subst hu; cases h1) hH hB (News.refl w) (Nat.le_refl _)
      (by rw [k1, ← k2]; simp) (fun i x hx => by
        obtain ⟨us, c1, c2⟩ := k3 i x hx
        exact ⟨us, c1, fun j u hj => by rw [← Array.getElem?_toList]; exact c2 j u hj⟩)
    injection q5 with q5 _ q8
    have q9 := q6 (by omega)
    rw [← q5] at q9
    injection q9 with q9
    refine ⟨_, _, g', h, a, b, e, q1, by rw [q2, k1], q3, by rw [← q8, k1], ?_⟩
    rw [← q9]
  · cases h
theorem new_var {cs : List AV} {cells : Array Value} {el : TypeId} (hH : HR B F w g H) (hB : Bs B w) (hc : All2 (VR0 F w g) cs cells.toList) :
    ∃ g', Gr B F g w F g' (w.alloc (.cells cells el)) ∧ HR B F (w.alloc (.cells cells el)) g' (H ++ [.var el cs]) ∧
      VR0 F (w.alloc (.cells cells el)) g' (.ptr H.length 0) (.pointer (some ⟨w.heap.size, 0, none⟩)) := by
  obtain ⟨h1, h2⟩ := HR_new (e := ⟨⟨w.heap.size, 0, none⟩, 0, 0, 0⟩) (b := .var el cs) hH hB (News.alloc w (.cells cells el)) (fun hg =>
    ⟨rfl, rfl, cells, alloc_get w _, hc.mono fun _ _ => VR0_gr hg⟩) (fun _ => ⟨Nat.le_refl _, by simp⟩)
  refine ⟨_, h1, h2, ⟨⟨w.heap.size, 0, none⟩, 0, 0, 0⟩, ?_, rfl⟩
  rw [← hH.len, List.getElem?_append_right (Nat.le_refl _)]; simp
end
end Go.Proofs.YtmojilihllhadaaGreatDoor.Ev
/- Slices of slices and of strings, places of elements and of fields. -/
namespace Go.Proofs.YtmojilihllhadaaGreatDoor.Ev
open Go Go.RowKit
set_option linter.unusedVariables false
set_option linter.unusedSimpArgs false
section
variable {α : Type} {P : Program} {E : Env} {B : Nat → Prop} {F : Fz} {g : List GE} {w : World} {H : Hp}
def VO (F : Fz) (w : World) (g : List GE) : Option AV → Option Value → Prop
  | none, none => True
  | some a, some b => VR2 F w g a b
  | _, _ => False
theorem run_sliceBound {k : IntKind} {i : Int} {y : Nat} {code : BoundsCode} (h : 0 ≤ i ∧ i ≤ (y : Int)) : (Instr.sliceBound (.int k i) y code).run P w = .ok i.toNat w := by
  simp only [Instr.sliceBound, asIntOf, Sem.run_bind, Sem.run_pure, Result.andThen, if_pos h]
theorem boundsK_ok {n cap : Nat} {isS : Bool} {lo hi : Option AV} {low high : Option Value} {K : Nat → Nat → Option α} {r : α} (h : boundsK n lo hi K = some r) (hn : n ≤ cap)
    (hlo : VO F w g lo low) (hhi : VO F w g hi high) : ∃ l k, l ≤ k ∧ k ≤ n ∧ K l k = some r ∧ (Instr.sliceBounds isS n cap low high none).run P w = .ok (l, k, cap) w := by
  unfold boundsK at h
  split at h
  · cases high with
    | some _ => exact hhi.elim
    | none =>
      split at h
      · cases low with
        | some _ => exact hlo.elim
        | none => exact ⟨0, n, Nat.zero_le _, Nat.le_refl _, h, by simp [Instr.sliceBounds]⟩
      · cases low with
        | none => exact hlo.elim
        | some lv =>
          rename_i k l
          have hl : lv = .int k l := hlo
          subst hl
          obtain ⟨h1, h2⟩ := cond_some h
          have h3 := of_decide_eq_true h1
          refine ⟨l.toNat, n, by omega, Nat.le_refl _, h2, ?_⟩
          simp only [Instr.sliceBounds, Sem.run_bind, Sem.run_pure, Result.andThen, run_sliceBound h3]
      · cases h
  · cases high with
    | none => exact hhi.elim
    | some hv =>
      rename_i k hh
      have he : hv = .int k hh := hhi
      subst he
      obtain ⟨h1, h2⟩ := cond_some h
      have h3 := of_decide_eq_true h1
      have h4 : 0 ≤ hh ∧ hh ≤ (cap : Int) := by omega
      split at h2
      · cases low with
        | some _ => exact hlo.elim
        | none =>
          refine ⟨0, hh.toNat, Nat.zero_le _, by omega, h2, ?_⟩
          simp only [Instr.sliceBounds, Sem.run_bind, Sem.run_pure, Result.andThen, run_sliceBound h4]
      · cases low with
        | none => exact hlo.elim
        | some lv =>
          rename_i k l
          have hl : lv = .int k l := hlo
          subst hl
          obtain ⟨h5, h6⟩ := cond_some h2
          have h7 := of_decide_eq_true h5
          have h8 : 0 ≤ l ∧ l ≤ (hh.toNat : Int) := by omega
          refine ⟨l.toNat, hh.toNat, by omega, by omega, h6, ?_⟩
          simp only [Instr.sliceBounds, Sem.run_bind, Sem.run_pure, Result.andThen, run_sliceBound h4, run_sliceBound h8]
      · cases h2
  · cases h
theorem run_slice {t e : TypeId} {i : TypeInfo} {a : Option Addr} {len cap l h m : Nat} {low high max : Option Value} (ht : P.underlying t = some (.slice e)) (hi : P.info? e = some i)
    (hb : (Instr.sliceBounds true len cap low high max).run P w = .ok (l, h, m) w) :
    (Instr.sliceAt t (.slice a len cap) low high max).run P w = .ok (.slice (if m = l then a else a.map (·.add (l * i.size))) (h - l) (m - l)) w := by
  simp only [Instr.sliceAt, Instr.slice, Sem.run_bind, Sem.run_pure, run_underlying ht, Result.andThen, hb, run_sizeOf hi]
theorem sliceK_ok {t e : TypeId} {i : TypeInfo} {x : AV} {u : Value} {lo hi mx : Option AV} {low high max : Option Value} {K : AV → Option α} {r : α} (ht : P.underlying t = some (.slice e)) (hi' : P.info? e = some i)
    (h : sliceK i.size x lo hi mx K = some r) (hx : VR2 F w g x u) (hlo : VO F w g lo low) (hhi : VO F w g hi high) (hmx : VO F w g mx max) (hH : HR B F w g H) :
    ∃ σ z, K σ = some r ∧ (Instr.sliceAt t u low high max).run P w = .ok z w ∧ VR2 F w g σ z := by
  have hgen : ∀ (x : AV), (match x with | .sl .. | .emp | .all .. | .own .. => True | _ => False) → VR2 F w g x u → ∃ A n c, u = .slice A n c := by
    intro x hx0 hx
    cases x <;> simp only at hx0
    · have hx : CR F w (.sl _) _ [u] := hx
      simp only [CR] at hx
      obtain ⟨A, c, h1, _⟩ := hx
      cases h1; exact ⟨_, _, _, rfl⟩
    · obtain ⟨A, rfl⟩ := hx; exact ⟨_, _, _, rfl⟩
    · obtain ⟨e, A, _, _, _, _, rfl, _⟩ := hx; exact ⟨_, _, _, rfl⟩
    · obtain ⟨e, A, _, _, _, _, rfl, _⟩ := hx; exact ⟨_, _, _, rfl⟩
  unfold sliceK at h
  split at h
  · -- three indexes, all nought
    cases max with
    | none => exact hmx.elim
    | some mv =>
      rename_i k0
      have hm : mv = .int k0 0 := hmx
      subst hm
      split at h
      · rename_i k1
        cases low with
        | some _ => exact hlo.elim
        | none =>
          cases high with
          | none => exact hhi.elim
          | some hv =>
            have hh : hv = .int k1 0 := hhi
            subst hh
            have hfin : ∀ A n c, u = .slice A n c → K .emp = some r → ∃ σ z, K σ = some r ∧ (Instr.sliceAt t u none (some (.int k1 0)) (some (.int k0 0))).run P w = .ok z w ∧ VR2 F w g σ z := by
              intro A n c hu hK
              subst hu
              refine ⟨.emp, _, hK, run_slice (l := 0) (h := 0) (m := 0) ht hi' ?_, ⟨A, by simp⟩⟩
              have h0 : ∀ y : Nat, (0 : Int) ≤ 0 ∧ (0 : Int) ≤ (y : Int) := fun y => by omega
              simp only [Instr.sliceBounds, Sem.run_bind, Sem.run_pure, Result.andThen, run_sliceBound (h0 _)]
              rfl
            split at h <;> first
              | (obtain ⟨A, n, c, hu⟩ := hgen _ trivial hx; exact hfin A n c hu h)
              | cases h
      · cases h
  · cases h
  · cases max with
    | some _ => exact hmx.elim
    | none =>
      split at h
      · -- for reading
        rename_i te xs
        split at h
        · rename_i hsz
          have hsz := Nat.eq_of_beq_eq_true hsz
          have hx : CR F w (.sl te) xs [u] := hx
          simp only [CR] at hx
          obtain ⟨A, c, h1, hc, hr⟩ := hx
          cases h1
          obtain ⟨l, k, hlk, hkn, hK, hb⟩ := boundsK_ok (P := P) (isS := true) h hc hlo hhi
          refine ⟨_, _, hK, run_slice ht hi' hb, ?_⟩
          have hlen : ((xs.take k).drop l).length = k - l := by simp; omega
          show CR F w (.sl te) _ _
          simp only [CR]
          refine ⟨_, _, by rw [hlen], by rw [hlen]; omega, fun j y hy => ?_⟩
          have hj := idx_lt hy
          rw [hlen] at hj
          rw [List.getElem?_drop, List.getElem?_take, if_pos (by omega)] at hy
          obtain ⟨ad, rfl, hs, us, ha, hl, hu⟩ := hr _ _ hy
          have hne : ¬ (c = l) := by omega
          refine ⟨⟨ad.block, ad.off + l * i.size, none⟩, by rw [if_neg hne, Option.map_some, Addr.add_plain _ hs], rfl, us, ha, hl, fun m z hz => ?_⟩
          have e1 : ad.off + l * i.size + (j * te.size + m) = ad.off + ((l + j) * te.size + m) := by
            rw [← hsz, Nat.add_mul]; omega
          show F ad.block (ad.off + l * i.size + (j * te.size + m)) ∧ w.cell? ⟨ad.block, ad.off + l * i.size + (j * te.size + m), none⟩ = some z
          rw [e1]
          exact hu m z hz
        · cases h
      · -- none
        obtain ⟨A, rfl⟩ := hx
        obtain ⟨l, k, hlk, hkn, hK, hb⟩ := boundsK_ok (P := P) (isS := true) (cap := 0) h (Nat.le_refl _) hlo hhi
        refine ⟨_, _, hK, run_slice ht hi' hb, ?_⟩
        have hl0 : l = 0 := by omega
        have hk0 : k = 0 := by omega
        subst hl0 hk0
        exact ⟨A, by simp⟩
      · -- a whole own one
        rename_i id sz n
        split at h
        · rename_i hsz
          have hsz := Nat.eq_of_beq_eq_true hsz
          obtain ⟨e', A, he, hn, hesz, hsp, rfl, hA, hnc⟩ := hx
          obtain ⟨l, k, hlk, hkn, hK, hb⟩ := boundsK_ok (P := P) (isS := true) h hnc hlo hhi
          refine ⟨_, _, hK, run_slice ht hi' hb, e', _, he, by omega, hesz, by omega, rfl, fun hc => ?_⟩
          have hne : ¬ (e'.cap = l) := by omega
          rw [if_neg hne, hA (by omega), Option.map_some, Addr.add_plain _ hsp, hesz, hsz]
        · cases h
      · rename_i id sz off n
        split at h
        · rename_i hsz
          have hsz := Nat.eq_of_beq_eq_true hsz
          obtain ⟨e', A, he, hn, hesz, hnc, rfl, hA⟩ := hx
          obtain ⟨l, k, hlk, hkn, hK, hb⟩ := boundsK_ok (P := P) (isS := true) (cap := e'.cap - off) h (by omega) hlo hhi
          refine ⟨_, _, hK, run_slice ht hi' hb, e', _, he, by omega, hesz, hnc, by rw [Nat.sub_sub], fun hc => ?_⟩
          have hne : ¬ (e'.cap - off = l) := by omega
          rw [if_neg hne, hA (by omega), Option.map_some, Addr.add_plain _ rfl, hesz, hsz, Nat.add_mul, Nat.add_assoc]
        · cases h
      · cases h
theorem sliceW_ok {t e : TypeId} {i : TypeInfo} {x : AV} {u : Value} {lo hi : Option AV} {low high : Option Value} {K : AV → Option α} {r : α} (ht : P.underlying t = some (.slice e)) (hi' : P.info? e = some i)
    (h : sliceK i.size (widen H hi.isSome x) lo hi none K = some r) (hx : VR2 F w g x u) (hlo : VO F w g lo low) (hhi : VO F w g hi high) (hH : HR B F w g H) :
    ∃ σ z, K σ = some r ∧ (Instr.sliceAt t u low high none).run P w = .ok z w ∧ VR2 F w g σ z := by
  by_cases hw : ∃ id s off n, x = .own id s off n ∧ hi.isSome = true
  · obtain ⟨id, s, off, n, rfl, hs⟩ := hw
    cases high with
    | none => cases hi with
      | none => cases hs
      | some _ => exact hhi.elim
    | some hv =>
      rw [hs] at h
      simp only [widen] at h
      obtain ⟨e', A, he, hn, hesz, hnc, rfl, hA⟩ := hx
      split at h
      · rename_i t' l s' hb
        have hl := (hH.blk id _ e' hb he).2.1
        have hx' : VR2 F w g (.own id s off (l.length - off)) (.slice A (l.length - off) (e'.cap - off)) := ⟨e', A, he, by omega, hesz, hnc, rfl, hA⟩
        obtain ⟨σ, z, q1, q2, q3⟩ := sliceK_ok (P := P) (max := none) ht hi' h hx' hlo hhi trivial hH
        refine ⟨σ, z, q1, ?_, q3⟩
        rw [← q2]
        simp only [Instr.sliceAt, Instr.slice, Instr.sliceBounds, Sem.run_bind, run_underlying ht, Result.andThen]
      · simp [sliceK] at h
  · have hxe : widen H hi.isSome x = x := by
      unfold widen
      split
      · rename_i a b c d hs; exact absurd ⟨_, _, _, _, rfl, hs⟩ hw
      · rfl
    rw [hxe] at h
    exact sliceK_ok (max := none) ht hi' h hx hlo hhi trivial hH
theorem threeK_ok {t e : TypeId} {i : TypeInfo} {x mx : AV} {u max : Value} {lo hi : Option AV} {low high : Option Value} {K : AV → Option α} {r : α} (ht : P.underlying t = some (.slice e)) (hi' : P.info? e = some i)
    (h : threeK x lo hi mx K = some r) (hx : VR2 F w g x u) (hlo : VO F w g lo low) (hhi : VO F w g hi high) (hmx : VR2 F w g mx max) :
    ∃ σ z, K σ = some r ∧ (Instr.sliceAt t u low high (some max)).run P w = .ok z w ∧ VR2 F w g σ z := by
  have hgen : ∀ (n : Nat), slLen x = some n → ∃ A c, u = .slice A n c ∧ n ≤ c := by
    intro n hn
    cases x with
    | sl te xs =>
      cases hn
      have hx : CR F w (.sl te) xs [u] := hx
      simp only [CR] at hx
      obtain ⟨A, c, h1, h2, _⟩ := hx
      cases h1; exact ⟨_, _, rfl, h2⟩
    | emp => cases hn; obtain ⟨A, rfl⟩ := hx; exact ⟨_, _, rfl, Nat.le_refl _⟩
    | all id s m => cases hn; obtain ⟨e, A, _, _, _, _, rfl, _, h2⟩ := hx; exact ⟨_, _, rfl, h2⟩
    | own id s off m => cases hn; obtain ⟨e, A, _, h1, _, h2, rfl, _⟩ := hx; exact ⟨_, _, rfl, by omega⟩
    | _ => cases hn
  unfold threeK at h
  split at h
  · rename_i n k1 hh k2 m hn
    obtain ⟨A, c, rfl, hnc⟩ := hgen _ hn
    cases low with
    | some _ => exact hlo.elim
    | none =>
      cases high with
      | none => exact hhi.elim
      | some hv =>
        have e1 : hv = .int k1 hh := hhi
        have e2 : max = .int k2 m := hmx
        subst e1 e2
        obtain ⟨h1, hK⟩ := cond_some h
        have h1 := of_decide_eq_true h1
        refine ⟨_, _, hK, run_slice (l := 0) (h := hh.toNat) (m := m.toNat) ht hi' ?_, trivial⟩
        have q1 : 0 ≤ m ∧ m ≤ (c : Int) := by omega
        have q2 : 0 ≤ hh ∧ hh ≤ (m.toNat : Int) := by omega
        simp only [Instr.sliceBounds, Sem.run_bind, Sem.run_pure, Result.andThen, run_sliceBound q1, run_sliceBound q2]
  · rename_i n k0 l k1 hh k2 m hn
    obtain ⟨A, c, rfl, hnc⟩ := hgen _ hn
    cases low with
    | none => exact hlo.elim
    | some lv =>
      cases high with
      | none => exact hhi.elim
      | some hv =>
        have e0 : lv = .int k0 l := hlo
        have e1 : hv = .int k1 hh := hhi
        have e2 : max = .int k2 m := hmx
        subst e0 e1 e2
        obtain ⟨h1, hK⟩ := cond_some h
        have h1 := of_decide_eq_true h1
        refine ⟨_, _, hK, run_slice (l := l.toNat) (h := hh.toNat) (m := m.toNat) ht hi' ?_, trivial⟩
        have q1 : 0 ≤ m ∧ m ≤ (c : Int) := by omega
        have q2 : 0 ≤ hh ∧ hh ≤ (m.toNat : Int) := by omega
        have q3 : 0 ≤ l ∧ l ≤ (hh.toNat : Int) := by omega
        simp only [Instr.sliceBounds, Sem.run_bind, Sem.run_pure, Result.andThen, run_sliceBound q1, run_sliceBound q2, run_sliceBound q3]
  · cases h
theorem strSlice_ok {t : TypeId} {s : ByteArray} {lo hi : Option AV} {low high : Option Value} {K : AV → Option α} {r : α} (ht : P.underlying t = some .string)
    (h : boundsK s.size lo hi (fun l h => K (.str (s.extract l h))) = some r) (hlo : VO F w g lo low) (hhi : VO F w g hi high) :
    ∃ σ z, K σ = some r ∧ (Instr.sliceAt t (.string s) low high none).run P w = .ok z w ∧ VR2 F w g σ z := by
  obtain ⟨l, k, hlk, hkn, hK, hb⟩ := boundsK_ok (P := P) (isS := false) (cap := s.size) h (Nat.le_refl _) hlo hhi
  refine ⟨_, _, hK, ?_, rfl⟩
  simp only [Instr.sliceAt, Instr.slice, Sem.run_bind, Sem.run_pure, run_underlying ht, Result.andThen, hb, Option.isSome_none, Bool.false_eq_true, if_false]
theorem run_index {t e : TypeId} {i : TypeInfo} {a : Addr} {len cap : Nat} {k : IntKind} {j : Int} (ht : P.underlying t = some (.slice e)) (hi : P.info? e = some i) (hj : 0 ≤ j ∧ j < (len : Int)) :
    (Instr.indexAt t (.slice (some a) len cap) (.int k j)).run P w = .ok (.pointer (some (a.add (j.toNat * i.size)))) w := by
  simp only [Instr.indexAt, asIntOf, Sem.run_bind, Sem.run_pure, run_underlying ht, Result.andThen, if_pos hj, run_sizeOf hi]
theorem idxK_ok {t e : TypeId} {i : TypeInfo} {x : AV} {u : Value} {k : IntKind} {j : Int} {K : AV → Option α} {r : α} (ht : P.underlying t = some (.slice e)) (hi : P.info? e = some i)
    (h : idxK i.size x j K = some r) (hx : VR2 F w g x u) : ∃ σ z, K σ = some r ∧ (Instr.indexAt t u (.int k j)).run P w = .ok z w ∧ VR2 F w g σ z := by
  unfold idxK at h
  split at h
  · rename_i te l
    split at h
    · rename_i hsz
      have hsz := Nat.eq_of_beq_eq_true hsz
      obtain ⟨h1, h2⟩ := cond_some h
      have h3 := of_decide_eq_true h1
      have hx : CR F w (.sl te) l [u] := hx
      simp only [CR] at hx
      obtain ⟨A, c, h4, hc, hr⟩ := hx
      cases h4
      have hlt : j.toNat < l.length := by omega
      obtain ⟨ad, rfl, hs, hrest⟩ := hr j.toNat _ (nth_get hlt)
      exact ⟨_, _, h2, run_index ht hi h3, ad, by rw [Addr.add_plain _ hs, hsz]; rfl, hlt, hs, hr⟩
    · cases h
  · rename_i id sz n
    split at h
    · rename_i hsz
      have hsz := Nat.eq_of_beq_eq_true hsz
      obtain ⟨h1, h2⟩ := cond_some h
      have h3 := of_decide_eq_true h1
      obtain ⟨e', A, he, hn, hesz, hsp, rfl, hA, hnc⟩ := hx
      have hA' := hA (by omega)
      subst hA'
      exact ⟨_, _, h2, run_index ht hi h3, e', he, by omega, by rw [Addr.add_plain _ hsp, hesz, hsz]; rfl⟩
    · cases h
  · rename_i id sz off n
    split at h
    · rename_i hsz
      have hsz := Nat.eq_of_beq_eq_true hsz
      obtain ⟨h1, h2⟩ := cond_some h
      have h3 := of_decide_eq_true h1
      obtain ⟨e', A, he, hn, hesz, hnc, rfl, hA⟩ := hx
      have hA' := hA (by omega)
      subst hA'
      refine ⟨_, _, h2, run_index ht hi h3, e', he, by omega, ?_⟩
      rw [Addr.add_plain _ rfl, hesz, hsz, Nat.add_mul, Nat.add_zero, Nat.add_assoc]
    · cases h
  · cases h
theorem run_indexA {t e : TypeId} {i : TypeInfo} {a : Addr} {n : Nat} {k : IntKind} {j : Int} (ht : P.underlying t = some (.array n e)) (hi : P.info? e = some i) (hj : 0 ≤ j ∧ j < (n : Int)) :
    (Instr.indexAt t (.pointer (some a)) (.int k j)).run P w = .ok (.pointer (some (a.add (j.toNat * i.size)))) w := by
  simp only [Instr.indexAt, asIntOf, Sem.run_bind, Sem.run_pure, run_underlying ht, Result.andThen, Instr.sureAddr, if_pos hj, run_sizeOf hi]
theorem idxA_ok {t e : TypeId} {i : TypeInfo} {n : Nat} {x : AV} {u : Value} {k : IntKind} {j : Int} {K : AV → Option α} {r : α} (ht : P.underlying t = some (.array n e)) (hi : P.info? e = some i)
    (h : idxA n i.size x j K = some r) (hx : VR2 F w g x u) : ∃ σ z, K σ = some r ∧ (Instr.indexAt t u (.int k j)).run P w = .ok z w ∧ VR2 F w g σ z := by
  unfold idxA at h
  split at h
  · rename_i id s m
    split at h
    · rename_i hsz
      rw [Bool.and_eq_true] at hsz
      have hs := Nat.eq_of_beq_eq_true hsz.1
      have hm := Nat.eq_of_beq_eq_true hsz.2
      obtain ⟨h1, h2⟩ := cond_some h
      have h3 := of_decide_eq_true h1
      obtain ⟨e', he, hn, hesz, hcap, rfl⟩ := hx
      refine ⟨_, _, h2, run_indexA ht hi h3, e', he, by omega, ?_⟩
      rw [Addr.add_plain _ rfl, hesz, hs]; rfl
    · cases h
  · cases h
theorem fieldPtr_ok {t : TypeId} (ht : TiOk P E t) {f off size : Nat} {agg : Bool} {p q : AV} {u : Value} (hf : (E.ti t).flds[f]? = some (off, size, agg)) (hsz : size ≠ 0) (h : fieldPtr off p = some q) (hp : VR2 F w g p u) :
    ∃ z, (Instr.fieldAt t u f).run P w = .ok z w ∧ VR2 F w g q z := by
  obtain ⟨fs, fd, i, hu, hfd, hoff, hi, hs, _⟩ := ht.flds f off size agg hf
  have hsz' : ¬ (i.size = 0) := by omega
  have hrun : ∀ a : Addr, (Instr.fieldAt t (.pointer (some a)) f).run P w = .ok (.pointer (some (a.add off))) w := by
    intro a
    simp only [Instr.fieldAt, Sem.run_bind, run_underlying hu, Result.andThen, hfd, Instr.sureAddr, Sem.run_pure, fieldPlace, run_sizeOf hi, if_neg hsz', hoff]
  cases p with
  | ptr id j =>
    simp only [fieldPtr] at h
    cases h
    obtain ⟨e, he, rfl⟩ := hp
    exact ⟨_, hrun _, e, he, by rw [Addr.add_plain _ rfl]⟩
  | eptr id j k =>
    simp only [fieldPtr] at h
    cases h
    obtain ⟨e, he, hj, rfl⟩ := hp
    exact ⟨_, hrun _, e, he, hj, by rw [Addr.add_plain _ rfl]; simp only [Nat.add_assoc]⟩
  | rptr te l j k =>
    simp only [fieldPtr] at h
    cases h
    obtain ⟨ad, rfl, hj, hs, hr⟩ := hp
    exact ⟨_, hrun _, ad, by rw [Addr.add_plain _ rfl]; simp only [Nat.add_assoc], hj, hs, hr⟩
  | _ => cases h
end
end Go.Proofs.YtmojilihllhadaaGreatDoor.Ev
/- append, make, literals of slices. -/
namespace Go.Proofs.YtmojilihllhadaaGreatDoor.Ev
open Go Go.RowKit
set_option linter.unusedVariables false
set_option linter.unusedSimpArgs false
section
variable {α : Type} {P : Program} {E : Env} {B : Nat → Prop} {F : Fz} {g : List GE} {w : World} {H : Hp}
def RowsW (F : Fz) (w : World) (t : Ty) (A : Option Addr) (l : List t.den) : Prop :=
  ∀ i x, l[i]? = some x → ∃ ad, A = some ad ∧ ad.spot = none ∧ ∃ us, CR F w t x us ∧ ∀ j u, us[j]? = some u → w.cell? ⟨ad.block, ad.off + (i * t.size + j), none⟩ = some u
theorem asSl_rows {t : Ty} {v : AV} {u : Value} {l : List t.den} (h : asSl H t v = some l) (hv : VR0 F w g v u) (hH : HR B F w g H) :
    ∃ A c, u = .slice A l.length c ∧ l.length ≤ c ∧ RowsW F w t A l := by
  cases v with
  | sl t' l' =>
    obtain ⟨rfl, rfl⟩ := castL_some h
    have hv' : CR F w (.sl _) _ [u] := hv
    simp only [CR] at hv'
    obtain ⟨A', c', he', hc', hr'⟩ := hv'
    simp only [List.cons.injEq, and_true] at he'
    refine ⟨A', c', he', hc', fun i x hx => ?_⟩
    obtain ⟨ad', hA', hs', us', ha', hl', hu'⟩ := hr' i x hx
    exact ⟨ad', hA', hs', us', ha', fun j u hj => (hu' j u hj).2⟩
  | emp =>
    obtain ⟨A, rfl⟩ := hv
    cases h
    exact ⟨A, 0, rfl, Nat.le_refl _, fun i x hx => by simp at hx⟩
  | all id sz n =>
    simp only [asSl] at h
    split at h
    · rename_i t' l' s hb
      obtain ⟨rfl, rfl⟩ := castL_some h
      obtain ⟨e, A', he', hn, hsz, hsp, rfl, hA', hnc⟩ := hv
      obtain ⟨h1, h2, h3, h4, _⟩ := hH.blk id _ e hb he'
      refine ⟨A', e.cap, by rw [← h2, hn], h3, fun i x hx => ?_⟩
      obtain ⟨hcap, us', ha', hl', hu''⟩ := arr_rows hH hb he' i x hx
      exact ⟨e.ad, hA' hcap, hsp, us', ha', hu''⟩
    · cases h
  | own id sz off n =>
    simp only [asSl] at h
    split at h
    · rename_i t' l' s hb
      obtain ⟨rfl, rfl⟩ := castL_some h
      obtain ⟨e, A', he', hn, hsz, hnc, rfl, hA'⟩ := hv
      obtain ⟨h1, h2, _⟩ := hH.blk id _ e hb he'
      have hlen : ((l'.drop off).take n).length = n := by simp; omega
      refine ⟨A', e.cap - off, by rw [hlen], by rw [hlen]; omega, fun i x hx => ?_⟩
      have hi := idx_lt hx
      rw [hlen] at hi
      have hx' : l'[off + i]? = some x := by
        rw [List.getElem?_take, if_pos (by omega), List.getElem?_drop] at hx; exact hx
      obtain ⟨hcap, us', ha', hl', hu''⟩ := arr_rows hH hb he' (off + i) x hx'
      refine ⟨_, hA' (by omega), rfl, us', ha', fun j u hj => ?_⟩
      have := hu'' j u hj
      rw [Nat.add_mul] at this
      show w.cell? ⟨e.ad.block, e.ad.off + off * e.sz + (i * t'.size + j), none⟩ = some u
      rw [h1, show e.ad.off + off * t'.size + (i * t'.size + j) = e.ad.off + (off * t'.size + i * t'.size + j) by omega]
      exact this
    · cases h
  | _ => cases h
theorem flat {t : Ty} {A : Option Addr} {l : List t.den} (h : RowsW F w t A l) : ∀ n, n ≤ l.length → ∃ cs : List Value, cs.length = n * t.size ∧
    (∀ i x, i < n → l[i]? = some x → ∃ us, CR F w t x us ∧ ∀ j u, us[j]? = some u → cs[i * t.size + j]? = some u) ∧
    (∀ m v, cs[m]? = some v → ∃ ad, A = some ad ∧ ad.spot = none ∧ w.cell? ⟨ad.block, ad.off + m, none⟩ = some v) ∧ ∀ v ∈ cs, v.oneCell' = true
  | 0, _ => ⟨[], by simp, fun i x hi => by omega, fun m v hv => by simp at hv, fun v hv => by simp at hv⟩
  | n + 1, hn => by
    obtain ⟨cs, h1, h2, h3, h4⟩ := flat h n (by omega)
    have hx : l[n]? = some (l[n]'(by omega)) := List.getElem?_eq_getElem (by omega)
    obtain ⟨ad, hA, hs, us, ha, hu⟩ := h n _ hx
    have hul := CR_len _ _ _ ha
    refine ⟨cs ++ us, by simp [h1, hul, Nat.add_mul], fun i x hi hx' => ?_, fun m v hv => ?_, fun v hv => ?_⟩
    · rcases Nat.lt_or_ge i n with hlt | hge
      · obtain ⟨us', ha', hu'⟩ := h2 i x hlt hx'
        refine ⟨us', ha', fun j u hj => ?_⟩
        rw [List.getElem?_append_left (idx_lt (hu' j u hj))]; exact hu' j u hj
      · have : i = n := by omega
        subst this
        rw [hx] at hx'; cases hx'
        refine ⟨us, ha, fun j u hj => ?_⟩
        rw [List.getElem?_append_right (by omega), h1, show i * t.size + j - i * t.size = j by omega]
        exact hj
    · rcases Nat.lt_or_ge m cs.length with hlt | hge
      · rw [List.getElem?_append_left hlt] at hv; exact h3 m v hv
      · rw [List.getElem?_append_right hge] at hv
        have := hu _ _ hv
        rw [h1] at this hge
        rw [show n * t.size + (m - n * t.size) = m by omega] at this
        exact ⟨ad, hA, hs, this⟩
    · rcases List.mem_append.1 hv with hv | hv
      · exact h4 v hv
      · have := explode_ok (g := []) t _ us ha
        obtain ⟨j, hj⟩ := List.mem_iff_getElem?.1 hv
        obtain ⟨a, ha', hab⟩ := this.getR j v hj
        have hsol : ∀ (t : Ty) (x : t.den), ∀ a ∈ explode t x, solid0 a = true := by
          intro t
          induction t with
          | pair a b iha ihb =>
            intro x a hm
            rcases List.mem_append.1 hm with hm | hm
            · exact iha _ _ hm
            · exact ihb _ _ hm
          | st t ih => intro x a hm; exact ih x a hm
          | unit => intro x a hm; cases hm
          | _ => intro x a hm; simp [explode] at hm; subst hm; rfl
        refine solid0_cell (F := F) (w := w) (g := []) (hsol t _ a (List.mem_of_getElem? ha')) ?_
        cases a <;> first | exact hab | exact hab.elim | (obtain ⟨rfl, rfl⟩ := hab; exact ⟨#[], rfl, .nil⟩)
theorem run_firstCells {t : Ty} {A : Option Addr} {n c : Nat} {cs : List Value} (h1 : cs.length = n * t.size) (h3 : ∀ m v, cs[m]? = some v → ∃ ad, A = some ad ∧ ad.spot = none ∧ w.cell? ⟨ad.block, ad.off + m, none⟩ = some v) :
    (Builtin.firstCells t.size n (.slice A n c)).run P w = .ok cs.toArray w := by
  cases A with
  | none =>
    have : cs = [] := by
      cases cs with
      | nil => rfl
      | cons v r => obtain ⟨ad, h, _⟩ := h3 0 v rfl; cases h
    subst this
    simp [Builtin.firstCells]
  | some a =>
    simp only [Builtin.firstCells]
    rw [← h1]
    exact run_loadCells_list w a cs fun j v hv => by
      obtain ⟨ad, h, hs, hc⟩ := h3 j v hv
      cases h
      rw [Addr.add_plain _ hs]; exact hc
theorem growBy_le (n : Nat) : ∀ (r c : Nat), c < n → Builtin.growBy n r c ≤ n + (n + 768) / 4
  | 0, c, h => by simp only [Builtin.growBy]; omega
  | r + 1, c, h => by
    simp only [Builtin.growBy]
    rw [if_neg (by omega)]
    rcases Nat.lt_or_ge (c + (c + 768) / 4) n with h' | h'
    · exact growBy_le n r _ h'
    · cases r with
      | zero => simp only [Builtin.growBy]; omega
      | succ r => simp only [Builtin.growBy]; rw [if_pos h']; omega
theorem nextslicecap_le {n c : Nat} (h : c < n) : Builtin.nextslicecap n c ≤ 2 * n + 768 := by
  unfold Builtin.nextslicecap
  split
  · omega
  · split
    · omega
    · have := growBy_le n 4 c h; omega
theorem HR_move {id : Nat} {b b' : Blk} {e e' : GE} {w' : World} (hH : HR B F w g H) (hb : H[id]? = some b) (he : g[id]? = some e) (hr : Real b e)
    (hos : w'.os = w.os) (htape : w'.tape = w.tape) (hout : w'.output = w.output) (hsz : w'.heap.size = w.heap.size)
    (hh : ∀ k, k ≠ e.ad.block → w'.heap[k]? = w.heap[k]?) (hF : ∀ o u, F e.ad.block o → w.cell? ⟨e.ad.block, o, none⟩ = some u → w'.cell? ⟨e.ad.block, o, none⟩ = some u)
    (hbr : Gr B F g w F (g ++ [e']) w' → BR F w' (g ++ [e']) e' b') (hrow : Real b' e' → e'.ad.block = e.ad.block)
    (hfz : ∀ o, F e.ad.block o → Real b' e' → ∃ t l, b' = .arr t l true ∧ o < e'.ad.off + l.length * t.size) :
    Gr B F g w F (g ++ [e']) w' ∧ HR B F w' (g ++ [e']) (H.set id .dead ++ [b']) := by
  obtain ⟨hB, hlt⟩ := hH.own id b e hb he hr
  have hg : Gr B F g w F (g ++ [e']) w' := by
    refine ⟨fun _ _ h => h, fun _ _ h => .inl h, fun k o u hk hu => ?_, fun i f h => ext_snoc g e' i f h, ⟨hos, htape, hout, by omega, fun k hk => hh k (fun e => hB (e ▸ hk))⟩⟩
    by_cases hk' : k = e.ad.block
    · subst hk'; exact hF o u hk hu
    · rw [cell_same (hh k hk')]; exact hu
  have hlen := hH.len
  have hpair : ∀ (i : Nat) (c : Blk) (f : GE), (H.set id .dead ++ [b'])[i]? = some c → (g ++ [e'])[i]? = some f →
      (i ≠ id ∧ H[i]? = some c ∧ g[i]? = some f) ∨ (c = .dead) ∨ (i = H.length ∧ c = b' ∧ f = e') := by
    intro i c f hc hf
    rcases get_snoc hc with ⟨h1, h2⟩ | ⟨h1, h2⟩ <;> rcases get_snoc hf with ⟨h3, h4⟩ | ⟨h3, h4⟩
    · by_cases hi : i = id
      · subst hi
        rw [List.getElem?_set_self (by simpa using h1)] at h2
        exact .inr (.inl (Option.some.inj h2).symm)
      · rw [List.getElem?_set_ne (fun h => hi h.symm)] at h2
        exact .inl ⟨hi, h2, h4⟩
    · simp at h1; omega
    · simp at h1; omega
    · exact .inr (.inr ⟨by simpa using h1, h2, h4⟩)
  refine ⟨hg, by simp [hlen], fun i c f hc hf => ?_, fun i c f hc hf hrc => ?_, fun i j c d f k hc hd hf hk hrc hrd hij => ?_, fun k o hk => ?_⟩
  · rcases hpair i c f hc hf with ⟨hi, h1, h2⟩ | rfl | ⟨_, rfl, rfl⟩
    · exact BR_gr hg (fun hrc => hh _ (hH.sep i id c b f e h1 hb h2 he hrc hr hi)) (hH.blk i c f h1 h2)
    · trivial
    · exact hbr hg
  · rcases hpair i c f hc hf with ⟨hi, h1, h2⟩ | rfl | ⟨_, rfl, rfl⟩
    · have := hH.own i c f h1 h2 hrc; exact ⟨this.1, by omega⟩
    · exact hrc.elim
    · rw [hrow hrc]; exact ⟨hB, by omega⟩
  · rcases hpair i c f hc hf with ⟨hi, h1, h2⟩ | rfl | ⟨hi, rfl, rfl⟩
    · rcases hpair j d k hd hk with ⟨hj, h3, h4⟩ | rfl | ⟨hj, rfl, rfl⟩
      · exact hH.sep i j c d f k h1 h3 h2 h4 hrc hrd hij
      · exact hrd.elim
      · rw [hrow hrd]; exact hH.sep i id c b f e h1 hb h2 he hrc hr hi
    · exact hrc.elim
    · rcases hpair j d k hd hk with ⟨hj, h3, h4⟩ | rfl | ⟨hj, rfl, rfl⟩
      · rw [hrow hrc]; exact fun h => hH.sep j id d b k e h3 hb h4 he hrd hr hj h.symm
      · exact hrd.elim
      · omega
  · obtain ⟨h1, h2⟩ := hH.frz k o hk
    refine ⟨by omega, fun i c f hc hf hrc hbk => ?_⟩
    rcases hpair i c f hc hf with ⟨hi, h3, h4⟩ | rfl | ⟨_, rfl, rfl⟩
    · exact h2 i c f h3 h4 hrc hbk
    · exact hrc.elim
    · have : e.ad.block = k := (hrow hrc).symm.trans hbk
      subst this
      exact hfz o hk hrc
end
end Go.Proofs.YtmojilihllhadaaGreatDoor.Ev
/- append and make. -/
namespace Go.Proofs.YtmojilihllhadaaGreatDoor.Ev
open Go Go.RowKit
set_option linter.unusedVariables false
set_option linter.unusedSimpArgs false
section
variable {α : Type} {P : Program} {E : Env} {B : Nat → Prop} {F : Fz} {g : List GE} {w : World} {H : Hp}
theorem run_append_in {st xt ty e e2 : TypeId} {i : TypeInfo} (ht : P.underlying st = some (.slice e)) (hx : P.underlying xt = some (.slice e2)) (hi : P.info? e = some i)
    {base A : Option Addr} {sLen sCap n c : Nat} {cs : List Value} (hfc : (Builtin.firstCells i.size n (.slice A n c)).run P w = .ok cs.toArray w) (hroom : sLen + n ≤ sCap)
    {w' : World} (hst : ∀ a, base = some a → (storeCells (a.add (sLen * i.size)) cs).run P w = .ok () w') (hn : base = none → w' = w) :
    (Builtin.append_ #[st, xt] ty #[.slice base sLen sCap, .slice A n c]).run P w = .ok (.slice base (sLen + n) sCap) w' := by
  cases base with
  | none =>
    have := hn rfl
    subst this
    simp [Builtin.append_, run_underlying ht, run_underlying hx, sizeOf, typeInfo, hi, Builtin.lenOf, hroom, hfc]
  | some a =>
    have := hst a rfl
    simp [Builtin.append_, run_underlying ht, run_underlying hx, sizeOf, typeInfo, hi, Builtin.lenOf, hroom, hfc, this]
theorem run_append_out {st xt ty e e2 : TypeId} {i : TypeInfo} {z : Value} (ht : P.underlying st = some (.slice e)) (hx : P.underlying xt = some (.slice e2)) (hi : P.info? e = some i) (hz : i.zero = some z) (hb : i.bytes ≤ 1024)
    {base A : Option Addr} {sLen sCap n c : Nat} {cs os : List Value} (hfc : (Builtin.firstCells i.size n (.slice A n c)).run P w.drew = .ok cs.toArray w.drew)
    (hfo : (Builtin.firstCells i.size sLen (.slice base sLen sCap)).run P w.drew = .ok os.toArray w.drew) (hroom : sCap < sLen + n) (hsm : sLen + n < 4294967296) :
    ∃ nc cells, sLen + n ≤ nc ∧ cells.toList = os ++ cs ++ (Builtin.zeroCells z.cells (nc - (sLen + n))).toList ∧ (Builtin.append_ #[st, xt] ty #[.slice base sLen sCap, .slice A n c]).run P w =
      .ok (.slice (some ⟨w.heap.size, 0, none⟩) (sLen + n) nc) (w.drew.alloc (.cells cells e)) := by
  refine ⟨(Question.appendCap (sLen + n) sCap e).cut (w.tape w.drawn (Question.appendCap (sLen + n) sCap e)),
    os.toArray ++ (cs.toArray ++ Builtin.zeroCells z.cells ((Question.appendCap (sLen + n) sCap e).cut (w.tape w.drawn (Question.appendCap (sLen + n) sCap e)) - (sLen + n))),
    by simp only [Question.cut]; omega, by simp, ?_⟩
  generalize hG : (os.toArray ++ (cs.toArray ++ Builtin.zeroCells z.cells ((Question.appendCap (sLen + n) sCap e).cut (w.tape w.drawn (Question.appendCap (sLen + n) sCap e)) - (sLen + n)))) = G
  have h1 : ¬ (sLen + n ≤ sCap) := by omega
  have h2 : ¬ (Builtin.nextslicecap (sLen + n) sCap * i.bytes > 2 ^ 48) := by
    have a := nextslicecap_le hroom
    have b : Builtin.nextslicecap (sLen + n) sCap * i.bytes ≤ (2 * (sLen + n) + 768) * 1024 := Nat.mul_le_mul a hb
    omega
  have h3 : ¬ (((sLen + n : Nat) : Int) > IntKind.i64.max ∧ (false = true ∨ i.bytes = 0)) := by
    rintro ⟨h, _⟩
    have e : IntKind.i64.max = 9223372036854775807 := rfl
    rw [e] at h; omega
  have h4 : ¬ (9223372036854775807 < ((sLen : Int) + (n : Int)) ∧ i.bytes = 0) := by omega
  have h5 : ¬ (281474976710656 < Builtin.nextslicecap (sLen + n) sCap * i.bytes) := by simpa using h2
  have h6 : ∀ (x : Nat) (w : World), (askRoom x).run P w = .ok () w := by
    intro x w
    unfold askRoom
    split <;> rfl
  simp [Builtin.append_, run_underlying ht, run_underlying hx, sizeOf, typeInfo, hi, Builtin.lenOf, h1, h4, h5, h6, Question.forced, hfc, hfo, zeroValue, hz, newRow, hG]
theorem run_append_inS {st xt ty e : TypeId} {i : TypeInfo} (ht : P.underlying st = some (.slice e)) (hx : P.underlying xt = some .string) (hi : P.info? e = some i)
    {base : Option Addr} {sLen sCap n : Nat} {s : ByteArray} {cs : List Value} (hsn : s.size = n) (hfc : (Builtin.firstCells i.size n (.string s)).run P w = .ok cs.toArray w) (hroom : sLen + s.size ≤ sCap)
    {w' : World} (hst : ∀ a, base = some a → (storeCells (a.add (sLen * i.size)) cs).run P w = .ok () w') (hn : base = none → w' = w) :
    (Builtin.append_ #[st, xt] ty #[.slice base sLen sCap, .string s]).run P w = .ok (.slice base (sLen + s.size) sCap) w' := by
  subst hsn
  cases base with
  | none =>
    have := hn rfl
    subst this
    simp [Builtin.append_, run_underlying ht, run_underlying hx, sizeOf, typeInfo, hi, Builtin.lenOf, hroom, hfc]
  | some a =>
    have := hst a rfl
    simp [Builtin.append_, run_underlying ht, run_underlying hx, sizeOf, typeInfo, hi, Builtin.lenOf, hroom, hfc, this]
theorem run_append_outS {st xt ty e : TypeId} {i : TypeInfo} {z : Value} (ht : P.underlying st = some (.slice e)) (hx : P.underlying xt = some .string) (hi : P.info? e = some i) (hz : i.zero = some z) (hb : i.bytes ≤ 1024)
    {base : Option Addr} {sLen sCap n : Nat} {s : ByteArray} {cs os : List Value} (hsn : s.size = n) (hfc : (Builtin.firstCells i.size n (.string s)).run P w.drew = .ok cs.toArray w.drew)
    (hfo : (Builtin.firstCells i.size sLen (.slice base sLen sCap)).run P w.drew = .ok os.toArray w.drew) (hroom : sCap < sLen + s.size) (hsm : sLen + s.size < 4294967296) :
    ∃ nc cells, sLen + s.size ≤ nc ∧ cells.toList = os ++ cs ++ (Builtin.zeroCells z.cells (nc - (sLen + s.size))).toList ∧ (Builtin.append_ #[st, xt] ty #[.slice base sLen sCap, .string s]).run P w =
      .ok (.slice (some ⟨w.heap.size, 0, none⟩) (sLen + s.size) nc) (w.drew.alloc (.cells cells e)) := by
  subst hsn
  refine ⟨(Question.appendCap (sLen + s.size) sCap e).cut (w.tape w.drawn (Question.appendCap (sLen + s.size) sCap e)),
    os.toArray ++ (cs.toArray ++ Builtin.zeroCells z.cells ((Question.appendCap (sLen + s.size) sCap e).cut (w.tape w.drawn (Question.appendCap (sLen + s.size) sCap e)) - (sLen + s.size))),
    by simp only [Question.cut]; omega, by simp, ?_⟩
  generalize hG : (os.toArray ++ (cs.toArray ++ Builtin.zeroCells z.cells ((Question.appendCap (sLen + s.size) sCap e).cut (w.tape w.drawn (Question.appendCap (sLen + s.size) sCap e)) - (sLen + s.size)))) = G
  have h1 : ¬ (sLen + s.size ≤ sCap) := by omega
  have h2 : ¬ (Builtin.nextslicecap (sLen + s.size) sCap * i.bytes > 2 ^ 48) := by
    have a := nextslicecap_le hroom
    have b : Builtin.nextslicecap (sLen + s.size) sCap * i.bytes ≤ (2 * (sLen + s.size) + 768) * 1024 := Nat.mul_le_mul a hb
    omega
  have h3 : ¬ (((sLen + s.size : Nat) : Int) > IntKind.i64.max ∧ (false = true ∨ i.bytes = 0)) := by
    rintro ⟨h, _⟩
    have e : IntKind.i64.max = 9223372036854775807 := rfl
    rw [e] at h; omega
  have h4 : ¬ (9223372036854775807 < ((sLen : Int) + (s.size : Int)) ∧ i.bytes = 0) := by omega
  have h5 : ¬ (281474976710656 < Builtin.nextslicecap (sLen + s.size) sCap * i.bytes) := by simpa using h2
  have h6 : ∀ (x : Nat) (w : World), (askRoom x).run P w = .ok () w := by
    intro x w
    unfold askRoom
    split <;> rfl
  simp [Builtin.append_, run_underlying ht, run_underlying hx, sizeOf, typeInfo, hi, Builtin.lenOf, h1, h4, h5, h6, Question.forced, hfc, hfo, zeroValue, hz, newRow, hG]
theorem new_virt {t : Ty} (s : Bool) (hH : HR B F w g H) (hB : Bs B w) :
    ∃ g', Gr B F g w F g' w ∧ HR B F w g' (H ++ [.arr t [] s]) ∧ ∀ A, VR0 F w g' (.all H.length t.size 0) (.slice A 0 0) := by
  obtain ⟨h1, h2⟩ := HR_new (e := ⟨⟨0, 0, none⟩, t.size, 0, 0⟩) (b := .arr t [] s) hH hB (News.refl w) (fun hg => ⟨rfl, rfl, Nat.le_refl _, rfl, fun h => absurd h (by simp)⟩) (fun h => absurd h (by simp [Real]))
  refine ⟨_, h1, h2, fun A => ⟨⟨⟨0, 0, none⟩, t.size, 0, 0⟩, A, ?_, rfl, rfl, rfl, rfl, fun h => absurd h (by simp), Nat.le_refl _⟩⟩
  rw [← hH.len, List.getElem?_append_right (Nat.le_refl _)]; simp
theorem append_in {t : Ty} {l xs : List t.den} {s : Bool} {id off n0 : Nat} {e : GE} {cs : List Value} (hH : HR B F w g H) (hb : H[id]? = some (.arr t l s)) (he : g[id]? = some e)
    (hoff : off + n0 ≤ l.length) (hs : s = true → off = 0 ∧ n0 = l.length) (hcap : 0 < e.cap - off) (hroom : n0 + xs.length ≤ e.cap - off)
    (h1 : cs.length = xs.length * t.size) (h2 : ∀ i x, i < xs.length → xs[i]? = some x → ∃ us, CR F w t x us ∧ ∀ j u, us[j]? = some u → cs[i * t.size + j]? = some u) (h4 : ∀ v ∈ cs, v.oneCell' = true) :
    ∃ w' g', (storeCells ⟨e.ad.block, e.ad.off + off * t.size + n0 * t.size, none⟩ cs).run P w = .ok () w' ∧ Gr B F g w F g' w' ∧
      HR B F w' g' (H.set id .dead ++ [.arr t ((l.drop off).take n0 ++ xs) s]) ∧
      VR0 F w' g' (.all H.length t.size ((l.drop off).take n0 ++ xs).length) (.slice (some ⟨e.ad.block, e.ad.off + off * t.size, none⟩) (n0 + xs.length) (e.cap - off)) := by
  obtain ⟨k1, k2, k3, k4, k5⟩ := hH.blk id _ e hb he
  obtain ⟨cur, el, k7, ku, k8, k9⟩ := k5 (by omega)
  have hcl : cur.toList.length = cur.size := by simp
  have hl0 : ((l.drop off).take n0).length = n0 := by simp; omega
  have hfit : e.ad.off + off * t.size + n0 * t.size + cs.length ≤ cur.size := by
    have a : (off + (n0 + xs.length)) * t.size ≤ e.cap * t.size := Nat.mul_le_mul_right _ (by omega)
    rw [Nat.add_mul, Nat.add_mul] at a
    omega
  have hrun := run_storeCells_at (P := P) e.ad.block (e.ad.off + off * t.size + n0 * t.size) el cs 0 cur w k7 (by omega) h4
  simp only [Nat.add_zero] at hrun
  have hlen : (cur.toList.take (e.ad.off + off * t.size + n0 * t.size) ++ cs ++ cur.toList.drop (e.ad.off + off * t.size + n0 * t.size + cs.length)).length = cur.size := by
    simp only [List.length_append, List.length_take, List.length_drop]; omega
  have hmove := HR_move (b' := .arr t ((l.drop off).take n0 ++ xs) s) (e' := ⟨⟨e.ad.block, e.ad.off + off * t.size, none⟩, t.size, e.cap - off, n0 + xs.length⟩)
    (w' := w.setRow e.ad.block (cur.toList.take (e.ad.off + off * t.size + n0 * t.size) ++ cs ++ cur.toList.drop (e.ad.off + off * t.size + n0 * t.size + cs.length)).toArray)
    hH hb he (by show 0 < e.cap; omega) rfl rfl rfl (by simp) (fun k hk => setRow_other _ _ _ _ hk)
    (fun o u hF hu => by
      obtain ⟨t', l', hl', ho⟩ := (hH.frz _ _ hF).2 id _ e hb he (by show 0 < e.cap; omega) rfl
      cases hl'
      obtain ⟨rfl, rfl⟩ := hs rfl
      rw [cell_of_block (setRow_heap w _ _ _ _ _ k7), ← Array.getElem?_toList, List.toList_toArray, splice_get (by omega), if_pos (by omega), Array.getElem?_toList, ← cell_of_block k7]
      exact hu)
    (fun hg => by
      refine ⟨rfl, by simp only [List.length_append, hl0], by simp only [List.length_append, hl0]; exact hroom, rfl, fun _ => ⟨_, el, setRow_heap w _ _ _ _ _ k7, ku, ?_, fun i x hx => ?_⟩⟩
      · rw [← Array.length_toList, List.toList_toArray, hlen]
        have a : (off + (e.cap - off)) * t.size ≤ e.cap * t.size := Nat.mul_le_mul_right _ (by omega)
        rw [Nat.add_mul] at a
        show e.ad.off + off * t.size + (e.cap - off) * t.size ≤ cur.size
        omega
      · rcases Nat.lt_or_ge i n0 with hi | hi
        · rw [List.getElem?_append_left (by omega), List.getElem?_take, if_pos hi, List.getElem?_drop] at hx
          obtain ⟨us, ha, hu⟩ := k9 (off + i) x hx
          refine ⟨us, CR_gr hg ha, fun j u hj => ?_⟩
          have hj' := idx_lt hj
          rw [CR_len _ _ _ ha] at hj'
          have hlt := mul_lt_of hi hj'
          have := hu j u hj
          rw [Nat.add_mul] at this
          show (cur.toList.take (e.ad.off + off * t.size + n0 * t.size) ++ cs ++ cur.toList.drop (e.ad.off + off * t.size + n0 * t.size + cs.length)).toArray[e.ad.off + off * t.size + (i * t.size + j)]? = some u
          rw [← Array.getElem?_toList, List.toList_toArray, splice_get (by omega), if_pos (by omega), Array.getElem?_toList, show e.ad.off + off * t.size + (i * t.size + j) = e.ad.off + (off * t.size + i * t.size + j) by omega]
          exact this
        · rw [List.getElem?_append_right (by omega), hl0] at hx
          obtain ⟨us, ha, hu⟩ := h2 (i - n0) x (idx_lt hx) hx
          refine ⟨us, CR_gr hg ha, fun j u hj => ?_⟩
          have hj2 := hu j u hj
          have hj3 := idx_lt hj2
          have hmul : (i - n0) * t.size = i * t.size - n0 * t.size := Nat.sub_mul _ _ _
          have hle : n0 * t.size ≤ i * t.size := Nat.mul_le_mul_right _ hi
          show (cur.toList.take (e.ad.off + off * t.size + n0 * t.size) ++ cs ++ cur.toList.drop (e.ad.off + off * t.size + n0 * t.size + cs.length)).toArray[e.ad.off + off * t.size + (i * t.size + j)]? = some u
          rw [← Array.getElem?_toList, List.toList_toArray, splice_get (by omega), if_neg (by omega), if_pos (by omega), ← hj2]
          congr 1; omega)
    (fun _ => rfl)
    (fun o hF _ => by
      obtain ⟨t', l', hl', ho⟩ := (hH.frz _ _ hF).2 id _ e hb he (by show 0 < e.cap; omega) rfl
      cases hl'
      obtain ⟨rfl, rfl⟩ := hs rfl
      refine ⟨_, _, rfl, ?_⟩
      have a : l.length * t.size ≤ ((l.drop 0).take l.length ++ xs).length * t.size := Nat.mul_le_mul_right _ (by simp)
      show o < e.ad.off + 0 * t.size + _
      omega)
  refine ⟨_, _, hrun, hmove.1, hmove.2, ⟨⟨e.ad.block, e.ad.off + off * t.size, none⟩, t.size, e.cap - off, n0 + xs.length⟩, some ⟨e.ad.block, e.ad.off + off * t.size, none⟩, ?_, ?_, rfl, rfl, ?_, fun _ => rfl, ?_⟩
  · rw [← hH.len, List.getElem?_append_right (Nat.le_refl _)]; simp
  · simp only [List.length_append, hl0]
  · simp only [List.length_append, hl0]
  · simp only [List.length_append, hl0]; exact hroom
end
end Go.Proofs.YtmojilihllhadaaGreatDoor.Ev
/- A stretch of an own slice is written over. -/
namespace Go.Proofs.YtmojilihllhadaaGreatDoor.Ev
open Go Go.RowKit
set_option linter.unusedVariables false
set_option linter.unusedSimpArgs false
section
variable {α : Type} {P : Program} {E : Env} {B : Nat → Prop} {F : Fz} {g : List GE} {w : World} {H : Hp}
theorem CR_one : (t : Ty) → (x : t.den) → (us : List Value) → CR F w t x us → ∀ v ∈ us, v.oneCell' = true
  | .int _, _, _, h => by simp only [CR] at h; subst h; intro v hv; simp only [List.mem_singleton] at hv; subst hv; rfl
  | .bool, _, _, h => by simp only [CR] at h; subst h; intro v hv; simp only [List.mem_singleton] at hv; subst hv; rfl
  | .str, _, _, h => by simp only [CR] at h; subst h; intro v hv; simp only [List.mem_singleton] at hv; subst hv; rfl
  | .unit, _, _, h => by simp only [CR] at h; subst h; intro v hv; cases hv
  | .sl _, _, _, h => by simp only [CR] at h; obtain ⟨_, _, rfl, _⟩ := h; intro v hv; simp only [List.mem_singleton] at hv; subst hv; rfl
  | .st t, x, us, h => CR_one t x us h
  | .pair a b, x, _, h => by
    simp only [CR] at h
    obtain ⟨v1, v2, rfl, h1, h2⟩ := h
    intro v hv
    rcases List.mem_append.1 hv with hv | hv
    · exact CR_one a _ _ h1 v hv
    · exact CR_one b _ _ h2 v hv
theorem laid_one {t : Ty} {cells : Array Value} {l : List t.den} (h : Laid F w t cells l) : ∀ v ∈ cells.toList, v.oneCell' = true := by
  intro v hv
  obtain ⟨m, hm⟩ := List.getElem?_of_mem hv
  have hm' : cells[m]? = some v := by simpa using hm
  have hlt : m < l.length * t.size := by rw [← h.1]; exact (Array.getElem?_eq_some_iff.1 hm').1
  have hsz : 0 < t.size := by
    rcases Nat.eq_zero_or_pos t.size with h0 | h0
    · rw [h0] at hlt; omega
    · exact h0
  have hi : m / t.size < l.length := (Nat.div_lt_iff_lt_mul hsz).2 hlt
  obtain ⟨us, ha, hb⟩ := h.2 (m / t.size) _ (List.getElem?_eq_getElem hi)
  have hj : m % t.size < us.length := by rw [CR_len _ _ _ ha]; exact Nat.mod_lt _ hsz
  have := hb (m % t.size) _ (List.getElem?_eq_getElem hj)
  rw [show m / t.size * t.size + m % t.size = m by rw [Nat.mul_comm]; exact Nat.div_add_mod _ _, hm'] at this
  cases this
  exact CR_one t _ _ ha _ (List.getElem_mem hj)
theorem splice_len {β : Type} {l ys : List β} {off : Nat} (h : off + ys.length ≤ l.length) : (splice l off ys).length = l.length := by simp [splice]; omega
theorem splice_nil {β : Type} {l : List β} {off : Nat} : splice l off [] = l := by simp [splice]
theorem splice_ok {id : Nat} {t : Ty} {l ys : List t.den} {e : GE} {off : Nat} (hH : HR B F w g H) (hb : H[id]? = some (.arr t l false)) (he : g[id]? = some e) (hoff : off + ys.length ≤ l.length)
    {cells : Array Value} (hl : Laid F w t cells ys) {A : Option Addr} (hA : 0 < ys.length → A = some ⟨e.ad.block, e.ad.off + off * t.size, none⟩) :
    ∃ w', (∀ a, A = some a → (storeCells a cells.toList).run P w = .ok () w') ∧ (A = none → w' = w) ∧ Gr B F g w F g w' ∧ HR B F w' g (H.set id (.arr t (splice l off ys) false)) := by
  obtain ⟨h1, h2, h3, h4, h5⟩ := hH.blk id _ e hb he
  by_cases hy : ys.length = 0
  · have : ys = [] := List.length_eq_zero_iff.1 hy
    subst this
    have hc : cells.toList = [] := by
      have := hl.1
      simp at this
      simp [this]
    refine ⟨w, fun a _ => by rw [hc]; rfl, fun _ => rfl, Gr.refl .., ?_⟩
    rw [splice_nil]
    rw [show H.set id (.arr t l false) = H from by
      apply List.ext_getElem?
      intro j
      by_cases hj : id = j
      · subst hj; rw [List.getElem?_set_self (idx_lt hb), hb]
      · rw [List.getElem?_set_ne hj]]
    exact hH
  · have hcap : 0 < e.cap := by omega
    obtain ⟨cur, el, h7, ku, h8, h9⟩ := h5 hcap
    have hcl : cells.toList.length = ys.length * t.size := by have := hl.1; simpa using this
    have hin : e.ad.off + off * t.size + cells.toList.length ≤ cur.size := by
      have : (off + ys.length) * t.size ≤ e.cap * t.size := Nat.mul_le_mul_right _ (by omega)
      rw [Nat.add_mul] at this
      omega
    have hst := run_storeCells_at (P := P) e.ad.block (e.ad.off + off * t.size) el cells.toList 0 cur w h7 (by omega) (laid_one hl)
    simp only [Nat.add_zero] at hst
    have hA' := hA (by omega)
    refine ⟨w.setRow e.ad.block (cur.toList.take (e.ad.off + off * t.size) ++ cells.toList ++ cur.toList.drop (e.ad.off + off * t.size + cells.toList.length)).toArray, ?_, ?_, ?_⟩
    · intro a ha; rw [hA'] at ha; cases ha; exact hst
    · intro hn; rw [hA'] at hn; cases hn
    refine HR_set hH hb he hcap (.inr (.inl ⟨_, _, rfl⟩)) rfl rfl rfl (by simp) (fun k hk => setRow_other _ _ _ _ hk) (fun hg => ?_) (by intro _ _ h; cases h)
    refine ⟨h1, by rw [splice_len hoff]; exact h2, by rw [splice_len hoff]; exact h3, h4, fun _ => ?_⟩
    have hcurl : cur.toList.length = cur.size := by simp
    refine ⟨_, el, setRow_heap w _ _ _ _ _ h7, ku, ?_, fun i x hx => ?_⟩
    · have : (cur.toList.take (e.ad.off + off * t.size) ++ cells.toList ++ cur.toList.drop (e.ad.off + off * t.size + cells.toList.length)).length = cur.toList.length := by
        simp only [List.length_append, List.length_take, List.length_drop]; omega
      rw [← Array.length_toList, List.toList_toArray, this]
      omega
    · have hil := idx_lt hx
      rw [splice_len hoff] at hil
      have hcase : (i < off ∨ off + ys.length ≤ i) ∧ l[i]? = some x ∨ (off ≤ i ∧ i < off + ys.length ∧ ys[i - off]? = some x) := by
        unfold splice at hx
        have hto : (l.take off).length = off := by simp; omega
        rcases Nat.lt_or_ge i off with hi | hi
        · rw [List.append_assoc, List.getElem?_append_left (by omega), List.getElem?_take, if_pos hi] at hx
          exact .inl ⟨.inl hi, hx⟩
        · rw [List.append_assoc, List.getElem?_append_right (by omega), hto] at hx
          rcases Nat.lt_or_ge i (off + ys.length) with hi2 | hi2
          · rw [List.getElem?_append_left (by omega)] at hx
            exact .inr ⟨hi, hi2, hx⟩
          · rw [List.getElem?_append_right (by omega), List.getElem?_drop] at hx
            rw [show off + ys.length + (i - off - ys.length) = i by omega] at hx
            exact .inl ⟨.inr hi2, hx⟩
      have hget : ∀ m, m < cur.toList.length → (cur.toList.take (e.ad.off + off * t.size) ++ cells.toList ++ cur.toList.drop (e.ad.off + off * t.size + cells.toList.length))[m]? =
          if m < e.ad.off + off * t.size then cur.toList[m]? else if m < e.ad.off + off * t.size + cells.toList.length then cells.toList[m - (e.ad.off + off * t.size)]? else cur.toList[m]? := by
        intro m hm
        have hto : (cur.toList.take (e.ad.off + off * t.size)).length = e.ad.off + off * t.size := by rw [List.length_take]; omega
        split
        · rename_i h; rw [List.append_assoc, List.getElem?_append_left (by omega), List.getElem?_take, if_pos h]
        · rename_i h
          rw [List.append_assoc, List.getElem?_append_right (by omega), hto]
          split
          · rename_i h'; rw [List.getElem?_append_left (by omega)]
          · rename_i h'
            rw [List.getElem?_append_right (by omega), List.getElem?_drop]
            congr 1
            omega
      rcases hcase with ⟨hside, hx'⟩ | ⟨hi1, hi2, hx'⟩
      · obtain ⟨us, ha, hu⟩ := h9 i x hx'
        refine ⟨us, CR_gr hg ha, fun j u hj => ?_⟩
        have hjl : j < t.size := by rw [← CR_len _ _ _ ha]; exact idx_lt hj
        have hold := hu j u hj
        have hold' : cur.toList[e.ad.off + (i * t.size + j)]? = some u := by simpa using hold
        have hm := idx_lt hold'
        have := hget _ hm
        rw [Array.getElem?_toList.symm, List.toList_toArray, this]
        rcases hside with hs | hs
        · have := mul_lt_of hs hjl
          rw [if_pos (by omega)]; exact hold'
        · have : (off + ys.length) * t.size ≤ i * t.size := Nat.mul_le_mul_right _ hs
          rw [Nat.add_mul] at this
          rw [if_neg (by omega), if_neg (by omega)]; exact hold'
      · obtain ⟨us, ha, hu⟩ := hl.2 (i - off) x hx'
        refine ⟨us, CR_gr hg ha, fun j u hj => ?_⟩
        have hjl : j < t.size := by rw [← CR_len _ _ _ ha]; exact idx_lt hj
        have hnew := hu j u hj
        have hnew' : cells.toList[(i - off) * t.size + j]? = some u := by simpa using hnew
        have e1 : i * t.size = off * t.size + (i - off) * t.size := by rw [← Nat.add_mul]; congr 1; omega
        have hlt := idx_lt hnew'
        have := hget (e.ad.off + (i * t.size + j)) (by omega)
        rw [Array.getElem?_toList.symm, List.toList_toArray, this, if_neg (by omega), if_pos (by omega), ← hnew']
        congr 1
        omega
end
end Go.Proofs.YtmojilihllhadaaGreatDoor.Ev
/- append, make, literals: what the evaluator says of them. -/
namespace Go.Proofs.YtmojilihllhadaaGreatDoor.Ev
open Go Go.RowKit
set_option linter.unusedVariables false
set_option linter.unusedSimpArgs false
section
variable {α : Type} {P : Program} {E : Env} {B : Nat → Prop} {F : Fz} {g : List GE} {w : World} {H : Hp}
theorem append_out {t : Ty} (s : Bool) {l0 xs : List t.den} {e : TypeId} {os cs : List Value} {z : Value} {cells : Array Value} {nc : Nat} (hu : t = .int .u8 → e = u8T) (hH : HR B F w g H) (hB : Bs B w)
    (hzs : z.cells.size = t.size) (hnc : l0.length + xs.length ≤ nc) (hcells : cells.toList = os ++ cs ++ (Builtin.zeroCells z.cells (nc - (l0.length + xs.length))).toList)
    (ho1 : os.length = l0.length * t.size) (ho2 : ∀ i x, i < l0.length → l0[i]? = some x → ∃ us, CR F w t x us ∧ ∀ j u, us[j]? = some u → os[i * t.size + j]? = some u)
    (hc1 : cs.length = xs.length * t.size) (hc2 : ∀ i x, i < xs.length → xs[i]? = some x → ∃ us, CR F w t x us ∧ ∀ j u, us[j]? = some u → cs[i * t.size + j]? = some u) :
    ∃ g', Gr B F g w F g' (w.drew.alloc (.cells cells e)) ∧ HR B F (w.drew.alloc (.cells cells e)) g' (H ++ [.arr t (l0 ++ xs) s]) ∧
      VR0 F (w.drew.alloc (.cells cells e)) g' (.all H.length t.size (l0 ++ xs).length) (.slice (some ⟨w.heap.size, 0, none⟩) (l0.length + xs.length) nc) := by
  have hsz : nc * t.size ≤ cells.size := by
    rw [← Array.length_toList, hcells]
    simp only [List.length_append, ho1, hc1, Builtin.zeroCells, Array.length_toList, Array.size_map, Array.size_range, hzs]
    rw [← Nat.add_mul, ← Nat.add_mul]
    exact Nat.mul_le_mul_right _ (by omega)
  have := new_arr (t := t) s (l := l0 ++ xs) (cells := cells) (el := e) (cap := nc) (w1 := w.drew) hu hH hB (News.drew w) (by simpa using hnc) hsz (fun i x hx => by
    rcases Nat.lt_or_ge i l0.length with hi | hi
    · rw [List.getElem?_append_left hi] at hx
      obtain ⟨us, ha, hu⟩ := ho2 i x hi hx
      refine ⟨us, ha, fun j u hj => ?_⟩
      have h1 := hu j u hj
      have h2 := idx_lt h1
      rw [← Array.getElem?_toList, hcells, List.append_assoc, List.getElem?_append_left h2]; exact h1
    · rw [List.getElem?_append_right hi] at hx
      obtain ⟨us, ha, hu⟩ := hc2 _ x (idx_lt hx) hx
      refine ⟨us, ha, fun j u hj => ?_⟩
      have h1 := hu j u hj
      have h2 := idx_lt h1
      have hmul : (i - l0.length) * t.size = i * t.size - l0.length * t.size := Nat.sub_mul _ _ _
      have hle : l0.length * t.size ≤ i * t.size := Nat.mul_le_mul_right _ hi
      rw [← Array.getElem?_toList, hcells, List.append_assoc, List.getElem?_append_right (by omega), List.getElem?_append_left (by omega), ← h1]
      congr 1; omega)
  obtain ⟨g', a, b, c⟩ := this
  refine ⟨g', a, b, ?_⟩
  rw [show l0.length + xs.length = (l0 ++ xs).length by simp]
  exact c
structure AppSrc (P : Program) (w : World) (sz n : Nat) (st xt ty e : TypeId) (i : TypeInfo) (z : Value) (v : Value) (cs : List Value) : Prop where
  room : ∀ {base : Option Addr} {sLen sCap : Nat} {w' : World}, sLen + n ≤ sCap → (∀ a, base = some a → (storeCells (a.add (sLen * i.size)) cs).run P w = .ok () w') → (base = none → w' = w) →
    (Builtin.append_ #[st, xt] ty #[.slice base sLen sCap, v]).run P w = .ok (.slice base (sLen + n) sCap) w'
  grow : ∀ {base : Option Addr} {sLen sCap : Nat} {os : List Value}, (Builtin.firstCells i.size sLen (.slice base sLen sCap)).run P w.drew = .ok os.toArray w.drew → sCap < sLen + n → sLen + n < 4294967296 →
    ∃ nc cells, sLen + n ≤ nc ∧ cells.toList = os ++ cs ++ (Builtin.zeroCells z.cells (nc - (sLen + n))).toList ∧ (Builtin.append_ #[st, xt] ty #[.slice base sLen sCap, v]).run P w =
      .ok (.slice (some ⟨w.heap.size, 0, none⟩) (sLen + n) nc) (w.drew.alloc (.cells cells e))
theorem appendL_ok {t : Ty} {st xt ty e : TypeId} {i : TypeInfo} {z : Value} (hu : t = .int .u8 → e = u8T) (hsz : i.size = t.size) (hzs : z.cells.size = t.size) {s : AV} {xs : List t.den} {cs : List Value} {u v : Value} {K : AV → Hp → Option α} {r : α}
    (S : AppSrc P w t.size xs.length st xt ty e i z v cs) (c1 : cs.length = xs.length * t.size) (c2 : ∀ i x, i < xs.length → xs[i]? = some x → ∃ us, CR F w t x us ∧ ∀ j u, us[j]? = some u → cs[i * t.size + j]? = some u) (c4 : ∀ v ∈ cs, v.oneCell' = true)
    (h : appendL t s xs H K = some r) (hs : VR2 F w g s u) (hH : HR B F w g H) (hB : Bs B w) :
    ∃ σ H' y w' F' g', K σ H' = some r ∧ (Builtin.append_ #[st, xt] ty #[u, v]).run P w = .ok y w' ∧ VR2 F' w' g' σ y ∧ Gr B F g w F' g' w' ∧ HR B F' w' g' H' := by
  have SI : ∀ {base : Option Addr} {sLen sCap : Nat} {w' : World}, sLen + xs.length ≤ sCap → (∀ a, base = some a → (storeCells (a.add (sLen * i.size)) cs).run P w = .ok () w') → (base = none → w' = w) →
    (Builtin.append_ #[st, xt] ty #[.slice base sLen sCap, v]).run P w = .ok (.slice base (sLen + xs.length) sCap) w' := S.room
  have SO : ∀ {base : Option Addr} {sLen sCap : Nat} {os : List Value}, (Builtin.firstCells i.size sLen (.slice base sLen sCap)).run P w.drew = .ok os.toArray w.drew → sCap < sLen + xs.length → sLen + xs.length < 4294967296 →
    ∃ nc cells, sLen + xs.length ≤ nc ∧ cells.toList = os ++ cs ++ (Builtin.zeroCells z.cells (nc - (sLen + xs.length))).toList ∧ (Builtin.append_ #[st, xt] ty #[.slice base sLen sCap, v]).run P w =
      .ok (.slice (some ⟨w.heap.size, 0, none⟩) (sLen + xs.length) nc) (w.drew.alloc (.cells cells e)) := S.grow
  unfold appendL at h
  split at h
  · -- to none
    obtain ⟨h1, hK⟩ := cond_some h
    have h1 := of_decide_eq_true h1
    obtain ⟨A', rfl⟩ := hs
    rcases Nat.eq_zero_or_pos xs.length with h0 | h0
    · have hxs0 : xs = [] := List.eq_nil_of_length_eq_zero h0
      subst hxs0
      have hcs : cs = [] := by cases cs with
        | nil => rfl
        | cons a b => simp at c1
      subst hcs
      obtain ⟨g', a, b, k⟩ := new_virt (t := t) false hH hB
      exact ⟨_, _, _, w, F, g', hK, SI (Nat.le_refl _) (fun _ _ => rfl) (fun _ => rfl), k A', a, b⟩
    · obtain ⟨nc, cells, hn, hce, hrun⟩ := SO (base := A') (sLen := 0) (sCap := 0) (os := [])
        (by rw [hsz]; exact run_firstCells (t := t) (by simp) (fun m q hq => by simp at hq)) (by omega) (by omega)
      obtain ⟨g', a, b, k⟩ := append_out (t := t) false (l0 := []) (xs := xs) (e := e) (os := []) (cs := cs) hu hH hB hzs (by simpa using hn) (by simpa using hce) (by simp) (fun i x hi => by simp at hi) c1 c2
      simp only [List.nil_append, List.length_nil, Nat.zero_add] at k
      rw [Nat.zero_add] at hrun
      exact ⟨_, _, _, _, F, g', hK, hrun, k, a, b⟩
  · -- to a whole own one
    rename_i id sz n0
    split at h
    · rename_i t' lx b hb
      split at h
      · rename_i l hl'
        obtain ⟨rfl, rfl⟩ := castL_some hl'
        obtain ⟨h1, hK⟩ := cond_some h
        have h1 := of_decide_eq_true h1
        have hs' := hs
        obtain ⟨e', A', he, hn, hesz, hsp, rfl, hA', hnc⟩ := hs'
        obtain ⟨k1, k2, k3, k4, k5⟩ := hH.blk id _ e' hb he
        have hnl : n0 = l.length := by omega
        have hrs := asSl_rows (t := t') (l := l) (v := .all id sz n0) (by simp [asSl, hb, castL?]) hs hH
        obtain ⟨A2, c2', he2, hc2', hrows2⟩ := hrs
        rw [hnl] at he2
        cases he2
        obtain ⟨os, o1, o2, o3, o4⟩ := flat hrows2 l.length (Nat.le_refl _)
        rcases Nat.lt_or_ge e'.cap (l.length + xs.length) with hout | hin
        · obtain ⟨nc, cells, hn', hce, hrun⟩ := SO (base := A') (sLen := l.length) (sCap := e'.cap) (os := os)
            (by rw [hsz]; exact run_firstCells (t := t') o1 o3) hout h1
          obtain ⟨g', a, b', k⟩ := append_out (t := t') b (l0 := l) (xs := xs) (e := e) hu (HR_kill (id := id) hH) hB hzs hn' hce o1 o2 c1 c2
          rw [List.length_set] at k
          rw [hnl]
          exact ⟨_, _, _, _, F, g', hK, hrun, k, a, b'⟩
        · rcases Nat.eq_zero_or_pos e'.cap with hz0 | hp0
          · have hl0 : l = [] := List.eq_nil_of_length_eq_zero (by omega)
            have hxs0 : xs = [] := List.eq_nil_of_length_eq_zero (by omega)
            subst hl0 hxs0
            have hcs : cs = [] := by cases cs with
              | nil => rfl
              | cons a b => simp at c1
            subst hcs
            obtain ⟨g', a, b', k⟩ := new_virt (t := t') b (HR_kill (id := id) hH) hB
            rw [List.length_set] at k
            rw [hnl]
            refine ⟨_, _, _, w, F, g', hK, SI (by simp) (fun _ _ => rfl) (fun _ => rfl), ?_, a, b'⟩
            rw [hz0]
            exact k A'
          · obtain ⟨w', g', hst, a, b', k⟩ := append_in (P := P) (off := 0) (n0 := l.length) hH hb he (by omega) (fun _ => ⟨rfl, rfl⟩) (by omega) (by omega) c1 c2 c4
            simp only [List.drop_zero, List.take_length, Nat.zero_mul, Nat.add_zero, Nat.sub_zero] at hst b' k
            have hA2 := hA' hp0
            subst hA2
            rw [hnl]
            have had : (⟨e'.ad.block, e'.ad.off, none⟩ : Addr) = e'.ad := by
              cases hh : e'.ad with
              | mk bb oo ss => rw [hh] at hsp; simp only at hsp; subst hsp; rfl
            rw [had] at k
            refine ⟨_, _, _, w', F, g', hK, SI hin (fun q hq => ?_) (fun h => by cases h), k, a, b'⟩
            cases hq
            rw [Addr.add_plain _ hsp, hsz]
            exact hst
      · cases h
    · cases h
  · -- to a part of one
    rename_i id sz off n0
    split at h
    · rename_i t' lx hb
      split at h
      · rename_i l hl'
        obtain ⟨rfl, rfl⟩ := castL_some hl'
        by_cases hfit : off + n0 + xs.length ≤ l.length
        · rw [decide_eq_true hfit] at h
          have hK : K (.own id t'.size off (n0 + xs.length)) (H.set id (.arr t' (splice l (off + n0) xs) false)) = some r := h
          obtain ⟨e', A', he, hn, hesz, hnc, rfl, hA'⟩ := hs
          obtain ⟨k1, k2, k3, k4, k5⟩ := hH.blk id _ e' hb he
          have hlaid : Laid F w t' cs.toArray xs := ⟨by simpa using c1, fun j y hy => by
            obtain ⟨us, q1, q2⟩ := c2 j y (idx_lt hy) hy
            exact ⟨us, q1, fun m u hm => by simpa using q2 m u hm⟩⟩
          obtain ⟨w', s1, s2, s3, s4⟩ := splice_ok (P := P) (off := off + n0) (A := A'.map (·.add (n0 * t'.size))) hH hb he (by omega) hlaid (fun hp => by
            rw [hA' (by omega), Option.map_some, Addr.add_plain _ rfl, k1]
            congr 2
            show e'.ad.off + off * t'.size + n0 * t'.size = _
            rw [Nat.add_mul]; omega)
          refine ⟨_, _, .slice A' (n0 + xs.length) (e'.cap - off), w', F, g, hK, SI (by omega) (fun q hq => ?_) (fun hq => ?_), ?_, s3, s4⟩
          · rw [hsz]
            have := s1 (q.add (n0 * t'.size)) (by rw [hq]; rfl)
            simpa using this
          · exact s2 (by rw [hq]; rfl)
          · exact ⟨e', A', he, by omega, k1, hnc, rfl, fun hc => hA' hc⟩
        rw [decide_eq_false hfit] at h
        simp only [cond_false] at h
        obtain ⟨h1, hK⟩ := cond_some h
        have h1 := of_decide_eq_true h1
        have hs' := hs
        obtain ⟨e', A', he, hn, hesz, hnc, rfl, hA'⟩ := hs'
        obtain ⟨k1, k2, k3, k4, k5⟩ := hH.blk id _ e' hb he
        have hlen : ((l.drop off).take n0).length = n0 := by simp; omega
        have hrs := asSl_rows (t := t') (l := (l.drop off).take n0) (v := .own id sz off n0) (by simp [asSl, hb, castL?]) hs hH
        obtain ⟨A2, c2', he2, hc2', hrows2⟩ := hrs
        rw [hlen] at he2
        cases he2
        obtain ⟨os, o1, o2, o3, o4⟩ := flat hrows2 n0 (by omega)
        rcases Nat.lt_or_ge (e'.cap - off) (n0 + xs.length) with hout | hin
        · obtain ⟨nc, cells, hn', hce, hrun⟩ := SO (base := A') (sLen := n0) (sCap := e'.cap - off) (os := os)
            (by rw [hsz]; exact run_firstCells (t := t') o1 o3) hout h1
          obtain ⟨g', a, b', k⟩ := append_out (t := t') false (l0 := (l.drop off).take n0) (xs := xs) (e := e) (os := os) (cs := cs) (cells := cells) hu (HR_kill (id := id) hH) hB hzs (by rw [hlen]; exact hn') (by rw [hlen]; exact hce)
            (by rw [hlen]; exact o1) (fun i x hi => o2 i x (by omega)) c1 c2
          rw [List.length_set, hlen] at k
          exact ⟨_, _, _, _, F, g', hK, hrun, k, a, b'⟩
        · rcases Nat.eq_zero_or_pos (e'.cap - off) with hz0 | hp0
          · have hn00 : n0 = 0 := by omega
            have hxs0 : xs = [] := List.eq_nil_of_length_eq_zero (by omega)
            subst hxs0 hn00
            have hcs : cs = [] := by cases cs with
              | nil => rfl
              | cons a b => simp at c1
            subst hcs
            obtain ⟨g', a, b', k⟩ := new_virt (t := t') false (HR_kill (id := id) hH) hB
            rw [List.length_set] at k
            refine ⟨_, _, _, w, F, g', hK, SI (by simp) (fun _ _ => rfl) (fun _ => rfl), ?_, a, b'⟩
            rw [hz0]
            exact k A'
          · obtain ⟨w', g', hst, a, b', k⟩ := append_in (P := P) (off := off) (n0 := n0) hH hb he (by omega) (fun h => by cases h) hp0 hin c1 c2 c4
            have hA2 := hA' hp0
            subst hA2
            rw [k1]
            refine ⟨_, _, _, w', F, g', hK, SI hin (fun q hq => ?_) (fun h => by cases h), k, a, b'⟩
            cases hq
            rw [Addr.add_plain _ rfl, hsz]
            exact hst
      · cases h
    · cases h
  · cases h
theorem appendK_ok {t : Ty} {st xt ty e e2 : TypeId} {i : TypeInfo} {z : Value} (ht : P.underlying st = some (.slice e)) (hxt : P.underlying xt = some (.slice e2)) (hi : P.info? e = some i)
    (hsz : i.size = t.size) (hby : i.bytes ≤ 1024) (hz : i.zero = some z) (hzs : z.cells.size = t.size) (hu : t = .int .u8 → e = u8T) {s x : AV} {u v : Value} {K : AV → Hp → Option α} {r : α}
    (h : appendK t s x H K = some r) (hs : VR2 F w g s u) (hx : VR2 F w g x v) (hH : HR B F w g H) (hB : Bs B w) :
    ∃ σ H' y w' F' g', K σ H' = some r ∧ (Builtin.append_ #[st, xt] ty #[u, v]).run P w = .ok y w' ∧ VR2 F' w' g' σ y ∧ Gr B F g w F' g' w' ∧ HR B F' w' g' H' := by
  unfold appendK at h
  split at h
  · cases h
  · rename_i xs hxs
    have hx0 : VR0 F w g x v := by cases x <;> first | exact hx | (simp [asSl] at hxs)
    obtain ⟨A, c, rfl, hc, hrows⟩ := asSl_rows hxs hx0 hH
    obtain ⟨cs, c1, c2, c3, c4⟩ := flat hrows xs.length (Nat.le_refl _)
    have hfc : ∀ w' : World, (∀ a, w'.cell? a = w.cell? a) → (Builtin.firstCells i.size xs.length (.slice A xs.length c)).run P w' = .ok cs.toArray w' := by
      intro w' hw'
      rw [hsz]
      exact run_firstCells c1 fun m q hq => let ⟨ad, p1, p2, p3⟩ := c3 m q hq; ⟨ad, p1, p2, by rw [hw']; exact p3⟩
    exact appendL_ok hu hsz hzs ⟨fun h1 h2 h3 => run_append_in ht hxt hi (hfc w fun _ => rfl) h1 h2 h3, fun h1 h2 h3 => run_append_out ht hxt hi hz hby (hfc w.drew fun _ => rfl) h1 h2 h3⟩ c1 c2 c4 (show appendL t s xs H K = some r from h) hs hH hB
end
end Go.Proofs.YtmojilihllhadaaGreatDoor.Ev
