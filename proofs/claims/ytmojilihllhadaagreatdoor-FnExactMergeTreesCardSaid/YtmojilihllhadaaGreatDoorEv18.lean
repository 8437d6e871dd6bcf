/- The evaluator: Ev13, EvMp, Ev14, Ev14b, Ev14c, Ev15, Ev16, Ev17, Ev22, Ev23a, Ev17b, Ev18. -/
import Derived.Test.YtmojilihllhadaaGreatDoorEv12
import Derived.Laws.BytesString
import Derived.Lib.UnsafeStr
import Derived.Orders
/- All operations that call nothing. -/
namespace Go.Proofs.YtmojilihllhadaaGreatDoor.Ev
open Go Go.RowKit
set_option linter.unusedVariables false
set_option linter.unusedSimpArgs false
section
variable {α : Type} {P : Program} {E : Env} {B : Nat → Prop} {F : Fz} {g : List GE} {w : World} {H : Hp}
theorem OpOk.mem {r : Sem Value} {Q : AV → Hp → Prop} {σ : AV} {H' : Hp} {v : Value} {w' : World} {F' : Fz} {g' : List GE} (hr : r.run P w = .ok v w') (hQ : Q σ H') (hv : VR2 F' w' g' σ v)
    (hg : Gr B F g w F' g' w') (hH : HR B F' w' g' H') : OpOk B F g w ((do pure (.value (← r)) : Sem Next).run P w) Q :=
  ⟨σ, H', v, w', F', g', hQ, .inl (by simp only [Sem.run_bind, hr, Result.andThen]; rfl), hv, hg, hH⟩
theorem VR0_2 {x : AV} {v : Value} (h : VR0 F w g x v) : VR2 F w g x v := by
  cases x <;> first | exact h | exact h.elim | (obtain ⟨rfl, rfl⟩ := h; exact ⟨#[], rfl, .nil⟩)
theorem VR1_2 {x : AV} {v : Value} (h : VR1 F w g x v) : VR2 F w g x v := by
  cases x <;> first | exact h | exact h.elim
theorem VR2_1 {x : AV} {v : Value} (h : VR2 F w g x v) (hx : ∀ cs, x ≠ .tup cs) : VR1 F w g x v := by
  cases x <;> first | exact h | exact absurd rfl (hx _)
theorem VR2_sol {x : AV} {v : Value} (h : VR2 F w g x v) (hx : solid x = true) : VR1 F w g x v := VR2_1 h fun cs e => by subst e; cases hx
theorem parts_ok {t : Ty} (hH : HR B F w g H) {ρ : Operand → AV} {ρc : Operand → Value} (ids : List Nat) : ∀ (parts : List (Nat × Operand)) (ps : List (Nat × t.den)) (cells : Array Value) (l : List t.den),
    partsTy H t ρ parts = some ps → (∀ p ∈ parts, VR2 F w g (ρ p.2) (ρc p.2)) → (∀ p ∈ parts, p.1 < l.length) → (∀ p ∈ parts, ∀ i ∈ ownIds (cellsOf (ρ p.2)), i ∈ ids) →
    Laid (lendF F g H ids) w t cells l →
    ∃ cells', Instr.fill (fun i => some (i * t.size, t.size)) cells (parts.map fun p => (p.1, ρc p.2)) = some cells' ∧ Laid (lendF F g H ids) w t cells' (fillElems ps l)
  | [], ps, cells, l, h, _, _, _, hl => by
    cases h
    exact ⟨cells, rfl, hl⟩
  | (i, x) :: r, ps, cells, l, h, hx, hi, hids, hl => by
    simp only [partsTy] at h
    split at h
    · rename_i v hv
      split at h
      · rename_i rest hrest
        cases h
        have hsol : solid (ρ x) = true := by
          unfold asTy at hv
          split at hv
          · rename_i h1 _; simp only [Bool.and_eq_true] at h1; exact h1.1
          · cases hv
        have hcr := CR_lend (hids (i, x) (by simp)) (asTy_ok hv (VR2_sol (hx (i, x) (by simp)) hsol) hH)
        have hlen := CR_len _ _ _ hcr
        have hil := hi (i, x) (by simp)
        have hfit : i * t.size + t.size ≤ cells.size := by
          have a : (i + 1) * t.size ≤ l.length * t.size := Nat.mul_le_mul_right _ hil
          rw [Nat.add_mul, Nat.one_mul] at a
          have := hl.1
          omega
        obtain ⟨cells', hc', hfill⟩ := fill_cons (place := fun i => some (i * t.size, t.size)) (cells := cells) (i := i) (v := ρc x) (rest := r.map fun p => (p.1, ρc p.2)) rfl (by simpa using hlen) hfit
        have hl' := laid_set (cells' := cells') hl hil hcr (by rw [hlen]; exact hc')
        obtain ⟨cells'', h1, h2⟩ := parts_ok hH ids r rest cells' _ hrest (fun p hp => hx p (by simp [hp])) (fun p hp => by simpa using hi p (by simp [hp])) (fun p hp => hids p (by simp [hp])) hl'
        exact ⟨cells'', by rw [List.map_cons]; exact hfill.trans h1, h2⟩
      · cases h
    · cases h
theorem fillElems_len {β : Type} : ∀ (ps : List (Nat × β)) (l : List β), (fillElems ps l).length = l.length
  | [], _ => rfl
  | (i, x) :: r, l => by simp [fillElems, fillElems_len r]
theorem buildSlice_ok {t : TypeId} {e : TypeId} (ht : TiOk P E t) (hd : (E.ti t).d = .slice e) {len : Nat} {parts : Array (Nat × Operand)} {ρ : Operand → AV} {ρc : Operand → Value} {K : AV → Hp → Option α} {r : α}
    (h : opK E (.buildSlice t len parts) ρ H K = some r) (hx : ∀ p ∈ parts.toList, VR2 F w g (ρ p.2) (ρc p.2)) (hH : HR B F w g H) (hB : Bs B w) :
    ∃ σ H' y w' F' g', K σ H' = some r ∧ (Instr.buildSlice t len (parts.map fun (i, x) => (i, ρc x))).run P w = .ok y w' ∧ VR2 F' w' g' σ y ∧ Gr B F g w F' g' w' ∧ HR B F' w' g' H' := by
  simp only [opK, hd] at h
  obtain ⟨i, z, hi, hsz, hby, hsz2, hz, hzr⟩ := ht.elem e (.inl hd)
  have hu := ht.slice e hd
  have hu8 := ht.u8 e (.inl hd)
  split at h
  · rename_i ps hps hchk
    simp only [Bool.and_eq_true, List.all_eq_true] at hchk
    obtain ⟨hlt, hsmall⟩ := hchk
    have hsmall := Nat.le_of_ble_eq_true hsmall
    have hlt : ∀ p ∈ parts.toList, p.1 < len := fun p hp => by
      have := hlt p hp
      exact Nat.lt_of_lt_of_le (Nat.lt_succ_self _) (Nat.le_of_ble_eq_true this)
    have hH1 := lend_HR hH (ownIds (parts.toList.flatMap fun p => cellsOf (ρ p.2)))
    have hg1 := lend_gr hH (ownIds (parts.toList.flatMap fun p => cellsOf (ρ p.2)))
    have hsm : ¬ (len * i.size > 2 ^ 24) := by rw [hsz]; omega
    obtain ⟨cells, hfill, hlaid⟩ := parts_ok (ρc := ρc) hH (ownIds (parts.toList.flatMap fun p => cellsOf (ρ p.2))) parts.toList ps
      ((Array.range (len * (E.ti e).ty.size)).map (z.cells[· % z.cells.size]!)) (List.replicate len (E.ti e).ty.dft) hps hx (fun p hp => by simpa using hlt p hp)
      (fun p hp q hq => by
        simp only [ownIds, List.mem_filterMap] at hq ⊢
        obtain ⟨v, hv, h2⟩ := hq
        exact ⟨v, List.mem_flatMap.2 ⟨p, hp, hv⟩, h2⟩) (laid_zero (hzr _ _) len)
    have hrun : (Instr.buildSlice t len (parts.map fun (i, x) => (i, ρc x))).run P w = .ok (.slice (some ⟨w.heap.size, 0, none⟩) len len) (w.alloc (.cells cells e)) := by
      have hpl : (parts.map fun (i, x) => (i, ρc x)).toList = parts.toList.map fun p => (p.1, ρc p.2) := by simp
      by_cases h0 : len * i.size = 0
      · have harr : (Array.range (len * i.size)).map ((#[] : Array Value)[· % (#[] : Array Value).size]!) = (Array.range (len * (E.ti e).ty.size)).map (z.cells[· % z.cells.size]!) := by
          rw [← hsz, h0]; apply Array.ext <;> simp
        simp only [Instr.buildSlice, Sem.run_bind, run_underlying hu, Result.andThen, run_sizeOf hi, if_neg hsm, if_pos h0, Sem.run_pure, hpl, harr]
        rw [hsz, hfill]
        rfl
      · have hz0 : (zeroValue e).run P w = .ok z w := by simp [zeroValue, typeInfo, program, Sem.run_bind, Sem.run, hi, hz, Result.andThen]
        simp only [Instr.buildSlice, Sem.run_bind, run_underlying hu, Result.andThen, run_sizeOf hi, if_neg hsm, if_neg h0, Sem.run_pure, hpl, hz0]
        rw [hsz, hfill]
        rfl
    split at h
    · obtain ⟨g', a, b, k⟩ := new_arr (t := (E.ti e).ty) false (l := []) (cells := cells) (el := e) (cap := 0) hu8 hH hB (News.refl w) (Nat.le_refl _) (by simp) (fun i x hx => by simp at hx)
      exact ⟨_, _, _, _, F, g', h, hrun, k, a, b⟩
    · rename_i hne
      split at h
      · have hn : (fillElems ps (List.replicate len (E.ti e).ty.dft)).length = len := by rw [fillElems_len, List.length_replicate]
        obtain ⟨g', a, b, k⟩ := new_arr (t := (E.ti e).ty) false (l := fillElems ps (List.replicate len (E.ti e).ty.dft)) (cells := cells) (el := e) (cap := len) hu8 hH1 hB (News.refl w) (Nat.le_of_eq hn) (by have := hlaid.1; rw [hn] at this; omega) (fun i x hx => hlaid.2 i x hx)
        rw [hn, lendAll_len] at k
        exact ⟨_, _, _, _, _, g', h, hrun, VR0_2 k, hg1.trans a, b⟩
      · obtain ⟨F', a, b, k⟩ := new_ro (el := e) hH1 hB (News.refl w) hlaid
        simp only [fillElems_len, List.length_replicate] at k
        exact ⟨_, _, _, _, F', g, h, hrun, VR0_2 k, hg1.trans a, b⟩
  · cases h
end
end Go.Proofs.YtmojilihllhadaaGreatDoor.Ev
/- Maps of truths by texts: made, looked up, written to. -/
namespace Go.Proofs.YtmojilihllhadaaGreatDoor.Ev
open Go Go.RowKit
set_option linter.unusedVariables false
set_option linter.unusedSimpArgs false
section
variable {P : Program} {E : Env} {B : Nat → Prop} {F : Fz} {g : List GE} {w : World} {H : Hp}
theorem ba_beq (a b : ByteArray) : (a == b) = (a.toList == b.toList) := by
  rw [Go.Lib.toList_data, Go.Lib.toList_data]
  cases a with | mk a => cases b with | mk b =>
  show (a == b) = (a.toList == b.toList)
  rw [Bool.eq_iff_iff, beq_iff_eq, beq_iff_eq]
  exact ⟨fun h => by rw [h], fun h => Array.toList_inj.1 h⟩
theorem ba_beq_eq {a b : ByteArray} (h : (a == b) = true) : a = b := by
  rw [ba_beq, beq_iff_eq, Go.Lib.toList_data, Go.Lib.toList_data] at h
  rw [← Go.Lib.mk_data a, ← Go.Lib.mk_data b, h]
abbrev MR (p : ByteArray × Bool) (x : MapEntry) : Prop := x.key = .string p.1 ∧ x.val = .bool p.2
theorem findNow_ok {s : ByteArray} : ∀ {m : List (ByteArray × Bool)} {es : List MapEntry} (i : Nat), All2 MR m es →
    (Instr.findNow .string (.string s) es i = some none ∧ mGet m s = false ∧ ∀ b, mPut m s b = m ++ [(s, b)]) ∨
    ∃ (j : Nat) (hj : j < m.length), Instr.findNow .string (.string s) es i = some (some (i + j, .bool (mGet m s))) ∧ m[j].1 = s ∧ ∀ b, mPut m s b = m.set j (s, b)
  | [], _, i, h => by cases h; exact .inl ⟨rfl, rfl, fun _ => rfl⟩
  | p :: m, _, i, h => by
    cases h with
    | cons h1 h2 =>
      rename_i x es
      obtain ⟨hk, hv⟩ := h1
      have hq : Instr.sameNow .string (.string s) x.key = some (s.toList == p.1.toList) := by rw [hk, ← ba_beq]; rfl
      cases hc : (s.toList == p.1.toList) with
      | true =>
        refine .inr ⟨0, by simp, ?_, ?_, fun b => ?_⟩
        · simp only [Instr.findNow, hq, hc, hv, mGet, cond_true, Nat.add_zero]
        · rw [← ba_beq] at hc
          exact (ba_beq_eq hc).symm
        · simp [mPut, hc]
      | false =>
        rcases findNow_ok (i + 1) h2 with ⟨k1, k2, k3⟩ | ⟨j, hj, k1, k2, k3⟩
        · refine .inl ⟨?_, ?_, fun b => ?_⟩
          · simp only [Instr.findNow, hq, hc]; exact k1
          · simp only [mGet, hc, cond_false]; exact k2
          · simp only [mPut, hc, cond_false, k3 b, List.cons_append]
        · refine .inr ⟨j + 1, by simp; omega, ?_, ?_, fun b => ?_⟩
          · simp only [Instr.findNow, hq, hc, k1, mGet, cond_false]
            rw [show i + 1 + j = i + (j + 1) by omega]
          · simpa using k2
          · simp only [mPut, hc, cond_false, k3 b, List.set_cons_succ]
theorem new_map (hH : HR B F w g H) (hB : Bs B w) : ∃ g', Gr B F g w F g' (w.alloc (.map #[] 0)) ∧ HR B F (w.alloc (.map #[] 0)) g' (H ++ [.mp []]) ∧
    VR0 F (w.alloc (.map #[] 0)) g' (.mp H.length) (.map (some w.heap.size)) := by
  obtain ⟨h1, h2⟩ := HR_new (e := ⟨⟨w.heap.size, 0, none⟩, 0, 0, 0⟩) (b := .mp []) hH hB (News.alloc w (.map #[] 0)) (fun hg =>
    ⟨rfl, rfl, #[], 0, alloc_get w _, .nil⟩) (fun _ => ⟨Nat.le_refl _, by simp⟩)
  refine ⟨_, h1, h2, ⟨⟨w.heap.size, 0, none⟩, 0, 0, 0⟩, ?_, rfl⟩
  rw [← hH.len, List.getElem?_append_right (Nat.le_refl _)]; simp
theorem run_makeMap0 (t : TypeId) : (Instr.makeMap t none).run P w = .ok (.map (some w.heap.size)) (w.alloc (.map #[] 0)) := by
  simp [Instr.makeMap, newObj, Sem.run_bind, Sem.run, Result.andThen]
theorem map_lookup (hE : ∀ t, TiOk P E t) {t k e : TypeId} (hd : (E.ti t).d = .map k e) (hk : (E.ti k).d = .str) (he : (E.ti e).d = .bool)
    {id : Nat} {m : List (ByteArray × Bool)} {s : ByteArray} {v : Value} (hb : H[id]? = some (.mp m)) (hv : VR0 F w g (.mp id) v) (hH : HR B F w g H) :
    (Instr.lookup t v (.string s) false).run P w = .ok (.bool (mGet m s)) w := by
  obtain ⟨ge, hg, rfl⟩ := hv
  obtain ⟨h1, h2, es, c, h3, h4⟩ := hH.blk id _ ge hb hg
  have hu := (hE t).map k e hd
  have huk := (hE k).str hk
  obtain ⟨i, q1, q5⟩ := (hE e).bz he
  have hz1 : (zeroValue e).run P w = .ok (.bool false) w := by simp [zeroValue, typeInfo, program, Sem.run_bind, Sem.run, q1, q5, Result.andThen]
  have hck : ∀ b, (Instr.checkKey b 10000 k (.string s)).run P w = .ok () w := by
    intro b
    show (Instr.checkKey b (9999 + 1) k (.string s)).run P w = _
    rw [Instr.checkKey]
    simp only [Sem.run_bind, run_underlying huk, Result.andThen]
    rfl
  have hfk : (Instr.findKey k (.string s) es.toList).run P w = .ok (match Instr.findNow .string (.string s) es.toList 0 with | some r => r | none => none) w := by
    simp only [Instr.findKey, Sem.run_bind, run_underlying huk, Result.andThen]
    rcases findNow_ok (s := s) 0 h4 with ⟨k1, _⟩ | ⟨j, hj, k1, _⟩ <;> rw [k1] <;> rfl
  have hgo : (getObj ge.ad.block).run P w = .ok (.map es c) w := by simp [getObj, Sem.run, h3]
  simp only [Instr.lookup, Sem.run_bind, run_underlying hu, Result.andThen, hgo, Sem.run_pure, hck, hfk]
  rcases findNow_ok (s := s) 0 h4 with ⟨k1, k2, _⟩ | ⟨j, hj, k1, _⟩
  · rw [k1]
    simp only [Sem.run_bind, hz1, Result.andThen, Sem.run_pure, k2]
    rfl
  · rw [k1]
    simp only [Sem.run_pure, Result.andThen]
    rfl
theorem map_update (hE : ∀ t, TiOk P E t) {t k e : TypeId} (hd : (E.ti t).d = .map k e) (hk : (E.ti k).d = .str)
    {id : Nat} {m : List (ByteArray × Bool)} {s : ByteArray} {b : Bool} {v : Value} (hb : H[id]? = some (.mp m)) (hv : VR0 F w g (.mp id) v) (hH : HR B F w g H) :
    ∃ w', (Instr.mapUpdate t v (.string s) (.bool b)).run P w = .ok () w' ∧ Gr B F g w F g w' ∧ HR B F w' g (H.set id (.mp (mPut m s b))) := by
  obtain ⟨ge, hg, rfl⟩ := hv
  obtain ⟨h1, h2, es, c, h3, h4⟩ := hH.blk id _ ge hb hg
  have hu := (hE t).map k e hd
  have huk := (hE k).str hk
  have hck : (Instr.checkKey false 10000 k (.string s)).run P w = .ok () w := by
    show (Instr.checkKey false (9999 + 1) k (.string s)).run P w = _
    rw [Instr.checkKey]
    simp only [Sem.run_bind, run_underlying huk, Result.andThen]
    rfl
  have hlt : ge.ad.block < w.heap.size := (hH.own id _ ge hb hg trivial).2
  have hgo : (getObj ge.ad.block).run P w = .ok (.map es c) w := by simp [getObj, Sem.run, h3]
  have set_ok : ∀ (es' : Array MapEntry) (c' : Nat), All2 MR (mPut m s b) es'.toList → ∃ w', (setObj ge.ad.block (.map es' c')).run P w = .ok () w' ∧ Gr B F g w F g w' ∧ HR B F w' g (H.set id (.mp (mPut m s b))) := by
    intro es' c' ha
    have hrun : (setObj ge.ad.block (.map es' c')).run P w = .ok () { w with heap := w.heap.setIfInBounds ge.ad.block (.map es' c') } := by
      simp [setObj, Sem.run, h3]
    refine ⟨_, hrun, ?_⟩
    exact HR_set hH hb hg trivial (.inr (.inr ⟨_, rfl⟩)) rfl rfl rfl (by simp) (fun k hk => by simp [Array.getElem?_setIfInBounds, Ne.symm hk])
      (fun _ => ⟨h1, h2, es', c', by simp [hlt], ha⟩) (fun _ _ h => by cases h)
  have hfk : (Instr.findKey k (.string s) es.toList).run P w = .ok (match Instr.findNow .string (.string s) es.toList 0 with | some r => r | none => none) w := by
    simp only [Instr.findKey, Sem.run_bind, run_underlying huk, Result.andThen]
    rcases findNow_ok (s := s) 0 h4 with ⟨k1, _⟩ | ⟨j, hj, k1, _⟩ <;> rw [k1] <;> rfl
  simp only [Instr.mapUpdate, Sem.run_bind, run_underlying hu, Result.andThen, hgo, hck, hfk]
  rcases findNow_ok (s := s) 0 h4 with ⟨k1, k2, k3⟩ | ⟨j, hj, k1, k2, k3⟩
  · rw [k1]
    refine set_ok _ _ ?_
    rw [k3 b, Array.toList_push]
    exact h4.append (.cons ⟨rfl, rfl⟩ .nil)
  · rw [k1]
    have hje : j < es.size := by have := h4.length; simp at this; omega
    obtain ⟨x, hx, hxk, hxv⟩ := h4.get j m[j] (by simp [hj])
    have hx' : es[j]? = some x := by simpa using hx
    have hkts : (Instr.keyThatStays (((es[0 + j]?).map (·.key)).getD (.string s)) (.string s)).run P w = .ok (.string s) w := by
      rw [Nat.zero_add, hx', Option.map_some, Option.getD_some, hxk, k2]
      have hss : (s == s) = true := by rw [ba_beq]; simp
      simp [Instr.keyThatStays, Instr.sameBits, hss, Sem.run]
    simp only [Sem.run_bind, hkts, Result.andThen]
    refine set_ok _ _ ?_
    rw [k3 b]
    have := h4.set (a := (s, b)) (b := { x with key := .string s, val := .bool b }) ⟨rfl, rfl⟩ j
    have he : (es.modify (0 + j) fun e => { e with key := .string s, val := .bool b }).toList = es.toList.set j { x with key := .string s, val := .bool b } := by
      rw [Nat.zero_add, Array.toList_modify]
      apply List.ext_getElem?
      intro i
      rw [List.getElem?_modify, List.getElem?_set]
      by_cases hi : j = i
      · subst hi
        have hxe : es[j]'hje = x := by
          rw [Array.getElem?_eq_getElem hje] at hx'
          exact Option.some.inj hx'
        simp [hje, hxe]
      · simp [hi]
    rw [he]
    exact this
end
end Go.Proofs.YtmojilihllhadaaGreatDoor.Ev
/- Every operation that calls nothing does what the evaluator says. -/
namespace Go.Proofs.YtmojilihllhadaaGreatDoor.Ev
open Go Go.RowKit
set_option linter.unusedVariables false
set_option linter.unusedSimpArgs false
section
variable {α : Type} {P : Program} {E : Env} {B : Nat → Prop} {F : Fz} {g : List GE} {w : World} {H : Hp}
theorem bytes_cells {xs : List Int} : ∀ {cs : List Value}, cs.length = xs.length → (∀ (i : Nat) (x : Int), xs[i]? = some x → cs[i]? = some (Value.int .u8 x)) → cs = xs.map (Value.int .u8) := by
  intro cs hl h
  apply List.ext_getElem?
  intro i
  rw [List.getElem?_map]
  cases hx : xs[i]? with
  | none =>
    rw [List.getElem?_eq_none_iff] at hx
    simp; omega
  | some x => simp [h i x hx]
theorem foldl_push (ns : List Int) : ∀ (r : ByteArray), ns.foldl (fun r n => r.push (UInt8.ofNat n.toNat)) r = ⟨r.data ++ (ns.map fun n => UInt8.ofNat n.toNat).toArray⟩ := by
  induction ns with
  | nil => intro r; simp
  | cons n ns ih =>
    intro r
    simp only [List.foldl_cons, ih, List.map_cons]
    congr 1
    simp [ByteArray.push]
theorem asSl_low {t : Ty} {x : AV} {u : Value} {l : List t.den} (h : asSl H t x = some l) (hx : VR2 F w g x u) : VR0 F w g x u := by
  cases x <;> first | exact hx | (simp [asSl] at h)
theorem convertK_ok (hE : ∀ t, TiOk P E t) {src dst : TypeId} {x : AV} {u : Value} {K : AV → Hp → Option α} {r : α} (h : convertK E src dst x H K = some r) (hx : VR2 F w g x u) (hH : HR B F w g H) :
    ∃ σ z, K σ H = some r ∧ (convert src dst u).run P w = .ok z w ∧ VR2 F w g σ z := by
  unfold convertK at h
  split at h
  · rename_i k0 k k1 n hd1 hd2
    have hu : u = .int k1 n := hx
    subst hu
    refine ⟨_, _, h, ?_, rfl⟩
    simp only [convert, Sem.run_bind, run_underlying ((hE src).int _ hd1), run_underlying ((hE dst).int _ hd2), Result.andThen]
    rfl
  · rename_i s hd1 hd2
    have hu : u = .string s := hx
    subst hu
    refine ⟨_, _, h, ?_, rfl⟩
    simp only [convert, Sem.run_bind, run_underlying ((hE src).str hd1), run_underlying ((hE dst).str hd2), Result.andThen]
    rfl
  · rename_i e hd1 hd2
    split at h
    · rename_i l hd3 hl
      have hx0 := asSl_low hl hx
      obtain ⟨A, c, rfl, hc, hrows⟩ := asSl_rows hl hx0 hH
      obtain ⟨cs, c1, c2, c3, c4⟩ := flat hrows l.length (Nat.le_refl _)
      refine ⟨_, _, h, ?_, rfl⟩
      have hsl := (hE src).slice _ hd1
      simp only [convert, Sem.run_bind, run_underlying hsl, run_underlying ((hE dst).str hd2), run_underlying ((hE e).int _ hd3), Result.andThen]
      have hcs : cs = l.map (Value.int .u8) := bytes_cells (by simpa [Ty.size] using c1) (fun i x hi => by
        obtain ⟨us, ha, hu⟩ := c2 i x (idx_lt hi) hi
        simp only [CR] at ha
        subst ha
        have := hu 0 _ rfl
        simpa [Ty.size] using this)
      cases A with
      | none =>
        have : l = [] := by
          cases l with
          | nil => rfl
          | cons a b => obtain ⟨ad, h, _⟩ := hrows 0 a rfl; cases h
        subst this
        rfl
      | some a =>
        have hload : (loadCells a l.length).run P w = .ok (l.map (Value.int .u8)).toArray w := by
          rw [show l.length = (l.map (Value.int .u8)).length by simp]
          exact run_loadCells_list w a _ fun j v hv => by
            rw [← hcs] at hv
            obtain ⟨ad, h, hs, hc⟩ := c3 j v hv
            cases h
            rw [Addr.add_plain _ hs]; exact hc
        have := run_bytesToString (P := P) w a l.length c l hload
        rw [foldl_push] at this
        simpa [bytesStr] using this
    · cases h
  · cases h
theorem fillCells_solid {flds : List (Nat × Nat × Bool)} {ρ : Operand → AV} : ∀ (ps : List (Nat × Operand)) (cs cs' : List AV), fillCells flds ρ ps cs = some cs' → ∀ p ∈ ps, solid (ρ p.2) = true := by
  intro ps
  induction ps with
  | nil => intro cs cs' _ p hp; cases hp
  | cons q ps ih =>
    intro cs cs' hf p hp
    simp only [fillCells] at hf
    split at hf
    · split at hf
      · rename_i hc
        simp only [Bool.and_eq_true] at hc
        rcases List.mem_cons.1 hp with rfl | hp
        · exact hc.1.1
        · exact ih _ _ hf p hp
      · cases hf
    · cases hf
theorem strsOf_ok : ∀ {cs : List AV} {l : List ByteArray} {m : List Value}, strsOf cs = some l → All2 (VR0 F w g) cs m → m = l.map Value.string
  | [], l, m, h, ha => by cases h; cases ha; rfl
  | c :: r, l, m, h, ha => by
    cases ha with
    | cons h1 ha =>
      cases c with
      | str s =>
        simp only [strsOf] at h
        split at h
        · rename_i l' hl'
          cases h
          have h1 : _ = Value.string s := h1
          rw [h1, strsOf_ok hl' ha]; rfl
        · cases h
      | _ => cases h
theorem nilChk_run {o : Oper} {x : Operand} {ρc : Operand → Value} (ho : o.op = .nilCheck x) {v : AV} (hn : nilChk v = true) (hv : VR2 F w g v (ρc x)) : (execOp ρc o).run P w = .ok (.value (ρc x)) w := by
  have : (∃ a, ρc x = .pointer (some a)) ∨ ∃ f vs, ρc x = .func (.func f) #[] vs := by
    cases v <;> simp only [nilChk] at hn <;> try (cases hn; done)
    · obtain ⟨e, _, h⟩ := hv; exact .inl ⟨_, h⟩
    · obtain ⟨e, _, _, h⟩ := hv; exact .inl ⟨_, h⟩
    · obtain ⟨e, _, _, _, _, h⟩ := hv; exact .inl ⟨_, h⟩
    · obtain ⟨ad, h, _⟩ := hv; exact .inl ⟨_, h⟩
    · obtain ⟨vs, h, _⟩ := hv; exact .inr ⟨_, _, h⟩
  unfold execOp
  rw [ho]
  rcases this with ⟨a, h⟩ | ⟨f, vs, h⟩ <;> simp only [h] <;> rfl
theorem wrap_small {n : Int} (h0 : 0 ≤ n) (h1 : n < 4294967296) : IntKind.i64.wrap n = n := by
  have e1 : (2 : Int) ^ IntKind.i64.bits = 18446744073709551616 := rfl
  have e2 : (2 : Int) ^ (IntKind.i64.bits - 1) = 9223372036854775808 := rfl
  unfold IntKind.wrap
  simp only [e1, e2]
  have : n % 18446744073709551616 = n := Int.emod_eq_of_lt h0 (by omega)
  rw [this]
  have h3 : ¬ (n ≥ 9223372036854775808) := by omega
  simp [h3]
theorem makeSlice_ok {t e : TypeId} (ht : TiOk P E t) (hd : (E.ti t).d = .slice e) {k k' : IntKind} {l c : Int} (h1 : 0 ≤ l) (h2 : l ≤ c) (h3 : c < 4294967296) (hH : HR B F w g H) (hB : Bs B w) :
    ∃ w' g' y, (Instr.makeSlice t (.int k l) (.int k' c)).run P w = .ok y w' ∧ Gr B F g w F g' w' ∧ HR B F w' g' (H ++ [.arr (E.ti e).ty (List.replicate l.toNat (E.ti e).ty.dft) false]) ∧
      VR0 F w' g' (.all H.length (E.ti e).ty.size (List.replicate l.toNat (E.ti e).ty.dft).length) y := by
  obtain ⟨i, z, hi, hsz, hby, hsz2, hz, hzr⟩ := ht.elem e (.inl hd)
  have hu := ht.slice e hd
  have hlaid := laid_zero (F := F) (w := w) (hzr F w) c.toNat
  have hn : (List.replicate l.toNat (E.ti e).ty.dft).length = l.toNat := by simp
  obtain ⟨g', a, b, q⟩ := new_arr (t := (E.ti e).ty) false (l := List.replicate l.toNat (E.ti e).ty.dft) (cells := (Array.range (c.toNat * (E.ti e).ty.size)).map (z.cells[· % z.cells.size]!)) (el := e) (cap := c.toNat)
    (ht.u8 e (.inl hd)) hH hB (News.refl w) (by rw [hn]; omega) (by simp) (fun i x hx => by
      have hil := idx_lt hx
      rw [hn] at hil
      rw [List.getElem?_replicate, if_pos hil] at hx
      cases hx
      exact hlaid.2 i _ (by rw [List.getElem?_replicate, if_pos (by omega)]))
  refine ⟨_, g', _, ?_, a, b, q⟩
  rw [hn]
  have hw1 := wrap_small h1 (by omega : l < 4294967296)
  have hw2 := wrap_small (by omega : 0 ≤ c) h3
  have hbig : ¬ ((i.bytes : Int) * c > 2 ^ 48) := by
    have h5 : (i.bytes : Int) * c ≤ 1024 * c := Int.mul_le_mul_of_nonneg_right (by omega) (by omega)
    omega
  have hcond : ¬ ((decide (c < 0) || decide ((i.bytes : Int) * c > 2 ^ 48) || decide (l < 0) || decide (l > c)) = true) := by
    simp only [Bool.or_eq_true, decide_eq_true_eq]
    omega
  have hroom : ∀ n : Nat, (askRoom n).run P w = .ok () w := by
    intro n; unfold askRoom; split <;> rfl
  have hti : (typeInfo e).run P w = .ok i w := by simp [typeInfo, program, Sem.run_bind, Sem.run, hi, Result.andThen]
  by_cases h0 : c.toNat * i.size = 0
  · have harr : (Array.range (c.toNat * i.size)).map ((#[] : Array Value)[· % (#[] : Array Value).size]!) = (Array.range (c.toNat * (E.ti e).ty.size)).map (z.cells[· % z.cells.size]!) := by
      rw [← hsz, h0]; apply Array.ext <;> simp
    simp only [Instr.makeSlice, Sem.run_bind, run_underlying hu, Result.andThen, asInt, asIntOf, Sem.run_pure, hti, hw1, hw2, hcond, Bool.false_eq_true, if_false, hroom, run_sizeOf hi, if_pos h0, harr]
    rfl
  · have hz0 : (zeroValue e).run P w = .ok z w := by simp [zeroValue, typeInfo, program, Sem.run_bind, Sem.run, hi, hz, Result.andThen]
    simp only [Instr.makeSlice, Sem.run_bind, run_underlying hu, Result.andThen, asInt, asIntOf, Sem.run_pure, hti, hw1, hw2, hcond, Bool.false_eq_true, if_false, hroom, run_sizeOf hi, if_neg h0, hz0]
    rw [hsz]
    rfl
theorem opK_ok (hE : ∀ t, TiOk P E t) {o : Oper} {ρ : Operand → AV} {ρc : Operand → Value} {K : AV → Hp → Option α} {r : α} (h : opK E o.op ρ H K = some r)
    (hρ : ∀ y ∈ o.op.operands, VR2 F w g (ρ y) (ρc y)) (hH : HR B F w g H) (hB : Bs B w) (hcst : ∀ v, ρc (.const v) = v) :
    OpOk B F g w ((execOp ρc o).run P w) (fun σ H' => K σ H' = some r) := by
  have hplain : ∀ {s : Sem Value}, execOp ρc o = (do pure (.value (← s))) → (∃ σ z, K σ H = some r ∧ s.run P w = .ok z w ∧ VR2 F w g σ z) → OpOk B F g w ((execOp ρc o).run P w) (fun σ H' => K σ H' = some r) := by
    rintro s hs ⟨σ, z, h1, h2, h3⟩
    rw [hs]
    exact OpOk.plain h2 hH h1 h3
  cases hop : o.op with
  | move x =>
    rw [hop] at h hρ
    have hx := hρ x (by simp [Op.operands])
    exact ⟨ρ x, H, ρc x, w, F, g, h, .inl (by simp only [execOp, hop]; rfl), hx, Gr.refl .., hH⟩
  | assign x =>
    rw [hop] at h hρ
    have hx := hρ x (by simp [Op.operands])
    exact ⟨ρ x, H, ρc x, w, F, g, h, .inl (by simp only [execOp, hop]; rfl), hx, Gr.refl .., hH⟩
  | pick c a b =>
    rw [hop] at h hρ
    have hc := hρ c (by simp [Op.operands])
    have ha := hρ a (by simp [Op.operands])
    have hb := hρ b (by simp [Op.operands])
    simp only [opK] at h
    split at h
    · rename_i q hq
      rw [hq] at hc
      have hc : ρc c = .bool q := hc
      cases q with
      | true => exact ⟨ρ a, H, ρc a, w, F, g, h, .inl (by simp only [execOp, hop, hc]; rfl), ha, Gr.refl .., hH⟩
      | false => exact ⟨ρ b, H, ρc b, w, F, g, h, .inl (by simp only [execOp, hop, hc]; rfl), hb, Gr.refl .., hH⟩
    · cases h
  | alloc t =>
    rw [hop] at h
    simp only [opK] at h
    split at h
    · split at h
      · rename_i hz
        have hz := eq_of_beq hz
        have hne : (E.ti t).size ≠ 1000000000 := by
          have := (hE t).zlen
          omega
        obtain ⟨i, z, h1, h2, h3, h4, h5, h6⟩ := (hE t).info hne
        obtain ⟨σ, H', g', hK, a, b, k⟩ := arrK_ok (el := t) h hH hB (h6 hz F w g)
        have hrun : (Instr.alloc t true (.tuple #[])).run P w = .ok (.pointer (some ⟨w.heap.size, 0, none⟩)) (w.alloc (.cells z.cells t)) := by
          simp [Instr.alloc, zeroValue, typeInfo, program, Sem.run_bind, Sem.run, h1, h5, Result.andThen, newVar, newRow]
        have : execOp ρc o = (do pure (.value (← Instr.alloc t true (.tuple #[])))) := by simp only [execOp, hop]
        rw [this]
        exact OpOk.mem hrun hK (VR0_2 k) a b
      · cases h
    · split at h
      · rename_i hz
        have hz := eq_of_beq hz
        have hne : (E.ti t).size ≠ 1000000000 := by
          have := (hE t).zlen
          omega
        obtain ⟨i, z, h1, h2, h3, h4, h5, h6⟩ := (hE t).info hne
        obtain ⟨g', a, b, k⟩ := new_var (el := t) hH hB (h6 hz F w g)
        have hrun : (Instr.alloc t true (.tuple #[])).run P w = .ok (.pointer (some ⟨w.heap.size, 0, none⟩)) (w.alloc (.cells z.cells t)) := by
          simp [Instr.alloc, zeroValue, typeInfo, program, Sem.run_bind, Sem.run, h1, h5, Result.andThen, newVar, newRow]
        have : execOp ρc o = (do pure (.value (← Instr.alloc t true (.tuple #[])))) := by simp only [execOp, hop]
        rw [this]
        exact OpOk.mem hrun h (VR0_2 k) a b
      · cases h
  | box t x =>
    rw [hop] at h hρ
    have hx := hρ x (by simp [Op.operands])
    simp only [opK] at h
    split at h
    · split at h
      · rename_i hc
        simp only [Bool.and_eq_true] at hc
        obtain ⟨hs, hl⟩ := hc
        obtain ⟨hcells, _⟩ := solid_cells hs (VR2_sol hx hs)
        obtain ⟨σ, H', g', hK, a, b, k⟩ := arrK_ok (el := t) h hH hB hcells
        have : execOp ρc o = (do pure (.value (← Instr.box t (ρc x)))) := by simp only [execOp, hop]
        rw [this]
        exact OpOk.mem (by simp [Instr.box, newVar, newRow]) hK (VR0_2 k) a b
      · cases h
    · split at h
      · rename_i hc
        simp only [Bool.and_eq_true] at hc
        obtain ⟨hs, hl⟩ := hc
        obtain ⟨hcells, _⟩ := solid_cells hs (VR2_sol hx hs)
        obtain ⟨g', a, b, k⟩ := new_var (el := t) hH hB hcells
        have : execOp ρc o = (do pure (.value (← Instr.box t (ρc x)))) := by simp only [execOp, hop]
        rw [this]
        exact OpOk.mem (by simp [Instr.box, newVar, newRow]) h (VR0_2 k) a b
      · cases h
  | build t parts =>
    rw [hop] at h hρ
    simp only [opK] at h
    split at h
    · rename_i hd hz
      have hz := eq_of_beq hz
      have hne : (E.ti t).size ≠ 1000000000 := by
        have := (hE t).zlen
        omega
      obtain ⟨i, z, h1, h2, h3, h4, h5, h6⟩ := (hE t).info hne
      obtain ⟨fs, pl, p1, p2, p3⟩ := (hE t).places hd
      split at h
      · rename_i cs hcs
        have hpx : ∀ p ∈ parts.toList, VR1 F w g (ρ p.2) (ρc p.2) ∨ solid (ρ p.2) = false := fun p hp => by
          cases hs : solid (ρ p.2) with
          | false => exact .inr rfl
          | true => exact .inl (VR2_sol (hρ p.2 (by simp only [Op.operands, List.mem_toArray, List.mem_map]; exact ⟨p, hp, rfl⟩)) hs)
        have hsolid := @fillCells_solid (E.ti t).flds ρ
        obtain ⟨cells', hf, hA⟩ := build_ok (flds := (E.ti t).flds) (place := (pl[·]?)) (ρc := ρc) p3 parts.toList (E.ti t).zero z.cells cs (h6 hz F w g)
          (fun p hp => (hpx p hp).resolve_right (by rw [hsolid _ _ _ hcs p hp]; simp)) hcs
        refine hplain (s := Instr.build t (parts.map fun (i, x) => (i, ρc x))) (by simp only [execOp, hop]) ⟨_, .agg cells', h, ?_, cells', rfl, hA⟩
        have hpl : (parts.map fun (i, x) => (i, ρc x)).toList = parts.toList.map fun p => (p.1, ρc p.2) := by simp
        have hz0 : (zeroValue t).run P w = .ok z w := by simp [zeroValue, typeInfo, program, Sem.run_bind, Sem.run, h1, h5, Result.andThen]
        have hm := congrFun p2 w
        simp only [Instr.build, Sem.run_bind, hz0, Result.andThen, run_underlying p1, hm, hpl, hf]
        rfl
      · cases h
    · rename_i n e hd hz
      have hz := eq_of_beq hz
      have hne : (E.ti t).size ≠ 1000000000 := by
        have := (hE t).zlen
        omega
      obtain ⟨i, z, h1, h2, h3, h4, h5, h6⟩ := (hE t).info hne
      split at h
      · rename_i cs hsm hcs
        have hsm := Nat.le_of_ble_eq_true hsm
        obtain ⟨inf, ze, hinf, his, _⟩ := (hE e).info (by omega)
        have hpx : ∀ p ∈ parts.toList, VR1 F w g (ρ p.2) (ρc p.2) ∨ solid (ρ p.2) = false := fun p hp => by
          cases hs : solid (ρ p.2) with
          | false => exact .inr rfl
          | true => exact .inl (VR2_sol (hρ p.2 (by simp only [Op.operands, List.mem_toArray, List.mem_map]; exact ⟨p, hp, rfl⟩)) hs)
        have hsolid := @fillCells_solid (arrF n (E.ti e).size (E.ti e).agg) ρ
        obtain ⟨cells', hf, hA⟩ := build_ok (flds := arrF n (E.ti e).size (E.ti e).agg) (place := fun i => some (i * (E.ti e).size, (E.ti e).size)) (ρc := ρc) (fun f off size agg hf => by
            unfold arrF at hf
            rw [List.getElem?_map] at hf
            obtain ⟨q, hq, hq'⟩ := Option.map_eq_some_iff.1 hf
            obtain ⟨_, rfl⟩ := List.getElem?_eq_some_iff.1 hq
            cases hq'
            simp) parts.toList (E.ti t).zero z.cells cs (h6 hz F w g)
          (fun p hp => (hpx p hp).resolve_right (by rw [hsolid _ _ _ hcs p hp]; simp)) hcs
        refine hplain (s := Instr.build t (parts.map fun (i, x) => (i, ρc x))) (by simp only [execOp, hop]) ⟨_, .agg cells', h, ?_, cells', rfl, hA⟩
        have hpl : (parts.map fun (i, x) => (i, ρc x)).toList = parts.toList.map fun p => (p.1, ρc p.2) := by simp
        have hz0 : (zeroValue t).run P w = .ok z w := by simp [zeroValue, typeInfo, program, Sem.run_bind, Sem.run, h1, h5, Result.andThen]
        simp only [Instr.build, Sem.run_bind, hz0, Result.andThen, run_underlying ((hE t).array n e hd), run_sizeOf hinf, his, hpl, hf]
        rfl
      · cases h
    · cases h
  | buildSlice t len parts =>
    rw [hop] at h hρ
    have hd : ∃ e, (E.ti t).d = .slice e := by
      simp only [opK] at h
      split at h
      · rename_i e he; exact ⟨e, he⟩
      · cases h
    obtain ⟨e, hd⟩ := hd
    obtain ⟨σ, H', y, w', F', g', a, b, c, d, e'⟩ := buildSlice_ok (ρc := ρc) (hE t) hd h (fun p hp => hρ p.2 (by simp only [Op.operands, List.mem_toArray, List.mem_map]; exact ⟨p, hp, rfl⟩)) hH hB
    have : execOp ρc o = (do pure (.value (← Instr.buildSlice t len (parts.map fun (i, x) => (i, ρc x))))) := by simp only [execOp, hop]
    rw [this]
    exact OpOk.mem b a c d e'
  | load t a =>
    rw [hop] at h hρ
    have ha := hρ a (by simp [Op.operands])
    simp only [opK] at h
    split at h
    · rename_i v hsm hv
      have hne : (E.ti t).size ≠ 1000000000 := by
        have : (E.ti t).size < 1000000000 := Nat.le_of_ble_eq_true hsm
        omega
      have ha0 : VR0 F w g (ρ a) (ρc a) := by
        generalize ρ a = q at ha hv
        cases q <;> first | exact ha | (simp [loadP] at hv)
      obtain ⟨b, off, us, hu, hl, hc, m1, m2⟩ := loadP_ok hv ha0 hH
      obtain ⟨i, z, h1, h2, h3, h4, h5, h6⟩ := (hE t).info hne
      obtain ⟨y, hr, hy⟩ := loadVar_ok h1 (by rw [h2, hl]) h4 hc m1 m2
      refine hplain (s := Instr.loadAt t (ρc a)) (by simp only [execOp, hop]) ⟨_, y, h, ?_, VR1_2 hy⟩
      rw [hu]
      simp only [Instr.loadAt, Instr.sureAddr, Sem.run_bind, Sem.run_pure, Result.andThen]
      exact hr
    · cases h
  | store t a x =>
    rw [hop] at h hρ
    have ha := hρ a (by simp [Op.operands])
    have hx := hρ x (by simp [Op.operands])
    simp only [opK] at h
    split at h
    · rename_i H' hsm hv
      have hne : (E.ti t).size ≠ 1000000000 := by
        have : (E.ti t).size < 1000000000 := Nat.le_of_ble_eq_true hsm
        omega
      have ha0 : VR0 F w g (ρ a) (ρc a) := by
        generalize ρ a = q at ha hv
        cases q <;> first | exact ha | (simp [storeP] at hv)
      have hx1 : VR1 F w g (ρ x) (ρc x) := by
        refine VR2_1 hx fun cs hcs => ?_
        rw [hcs] at hv
        generalize ρ a = q at hv
        cases q <;> simp [storeP, solid, solid0] at hv
        all_goals (split at hv <;> simp at hv)
      obtain ⟨i, z, h1, h2, h3, h4, h5, h6⟩ := (hE t).info hne
      obtain ⟨ad, w', F', hu, hr, hg, hH'⟩ := storeP_ok h1 h2 hv ha0 hx1 hH hB
      refine ⟨.top, H', undef, w', F', g, h, .inr ⟨?_, rfl⟩, trivial, hg, hH'⟩
      simp only [execOp, hop, hu, Instr.storeAt, Instr.sureAddr, Sem.run_bind, Sem.run_pure, Result.andThen, hr]
    · cases h
  | nilCheck x =>
    rw [hop] at h hρ
    have hx := hρ x (by simp [Op.operands])
    simp only [opK] at h
    split at h
    · rename_i hn
      exact ⟨ρ x, H, ρc x, w, F, g, h, .inl (nilChk_run hop hn hx), hx, Gr.refl .., hH⟩
    · cases h
  | binOp op t x y yt =>
    rw [hop] at h hρ
    have hx := hρ x (by simp [Op.operands])
    have hy := hρ y (by simp [Op.operands])
    simp only [opK] at h
    split at h
    · have hyc : ρc (.const (.slice none 0 0)) = .slice none 0 0 := hcst _
      have hnil : ∀ (eq : Bool), nilK (ρ x) eq (fun v => K v H) = some r → ∃ A n c b, ρc x = .slice A n c ∧ K (.bool b) H = some r ∧ b = (A.isNone == eq) := by
        intro eq hk
        unfold nilK at hk
        split at hk
        · rename_i n hn
          have hsl : ∃ A c, ρc x = .slice A n c ∧ (A = none → n = 0) := by
            cases hrx : ρ x with
            | sl te xs =>
              rw [hrx] at hn hx
              cases hn
              have hx : CR F w (.sl te) xs [ρc x] := hx
              simp only [CR] at hx
              obtain ⟨A, c, h1, _, h2⟩ := hx
              have h1 := List.head_eq_of_cons_eq h1
              refine ⟨A, c, h1, fun hA => ?_⟩
              cases xs with
              | nil => rfl
              | cons a b => obtain ⟨ad, hh, _⟩ := h2 0 a rfl; rw [hA] at hh; cases hh
            | emp => rw [hrx] at hn hx; cases hn; obtain ⟨A, h1⟩ := hx; exact ⟨A, 0, h1, fun _ => rfl⟩
            | all id s m =>
              rw [hrx] at hn hx
              cases hn
              obtain ⟨e, A, _, _, _, _, h1, h2, h3⟩ := hx
              refine ⟨A, _, h1, fun hA => ?_⟩
              rcases Nat.eq_zero_or_pos n with h0 | h0
              · exact h0
              · rw [h2 (by omega)] at hA; cases hA
            | own id s off m =>
              rw [hrx] at hn hx
              cases hn
              obtain ⟨e, A, _, q1, _, q2, h1, h2⟩ := hx
              refine ⟨A, _, h1, fun hA => ?_⟩
              rcases Nat.eq_zero_or_pos n with h0 | h0
              · exact h0
              · rw [h2 (by omega)] at hA; cases hA
            | _ => rw [hrx] at hn; cases hn
          obtain ⟨A, c, h1, h2⟩ := hsl
          cases hd : decide (n = 0) with
          | true =>
            rw [hd] at hk
            have hk : joinO (K (.bool true) H) (K (.bool false) H) = some r := hk
            unfold joinO at hk
            split at hk
            · rename_i he
              refine ⟨A, n, c, A.isNone == eq, h1, ?_, rfl⟩
              cases (A.isNone == eq) with
              | true => exact hk
              | false => rw [← he]; exact hk
            · cases hk
          | false =>
            rw [hd] at hk
            have hk : K (.bool !eq) H = some r := hk
            have hA : A.isNone = false := by
              cases A with
              | none => rw [decide_eq_false_iff_not] at hd; exact absurd (h2 rfl) hd
              | some a => rfl
            refine ⟨A, n, c, !eq, h1, hk, ?_⟩
            rw [hA]; cases eq <;> rfl
        · cases hk
      have fin : ∀ (eq : Bool), (op = if eq then .eql else .neq) → (∃ e, (E.ti t).d = .slice e) → nilK (ρ x) eq (fun v => K v H) = some r → OpOk B F g w ((execOp ρc o).run P w) (fun σ H' => K σ H' = some r) := by
        rintro eq hop2 ⟨e, hd⟩ hk
        obtain ⟨A, n, c, b, h1, h2, h3⟩ := hnil eq hk
        have hgd : (eqGuard op t x (.const (.slice none 0 0)) (ρc x) (ρc (.const (.slice none 0 0)))).run P w = .ok () w := by
          rw [hyc, h1, hop2]; cases eq <;> rfl
        have heq : (Op.equal t (.slice A n c) (.slice none 0 0)).run P w = .ok A.isNone w := by
          show (Op.equalIn (9999 + 1) t _ _).run P w = _
          rw [Op.equalIn]
          simp only [Sem.run_bind, run_underlying ((hE t).slice e hd), Result.andThen]
          cases A <;> rfl
        refine hplain (s := (do eqGuard op t x (.const (.slice none 0 0)) (ρc x) (ρc (.const (.slice none 0 0))); binOp op t (ρc x) (ρc (.const (.slice none 0 0))))) ?_ ⟨.bool b, .bool b, h2, ?_, rfl⟩
        · simp only [execOp, hop]
        · simp only [Sem.run_bind, hgd, Result.andThen]
          rw [hyc, h1, hop2]
          cases eq with
          | true => simp only [if_true, binOp, Sem.run_bind, heq, Result.andThen]; (try rw [h3]); (try (cases A <;> rfl))
          | false => simp only [Bool.false_eq_true, if_false, binOp, Sem.run_bind, heq, Result.andThen]; (try rw [h3]); (try (cases A <;> rfl))
      split at h
      · rename_i e hd; exact fin true rfl ⟨e, hd⟩ h
      · rename_i e hd; exact fin false rfl ⟨e, hd⟩ h
      · cases h
    obtain ⟨σ, z, h1, h2, h3⟩ := binOpK_ok (H := H) (B := B) (hE t) h hx hy
    have hguard : (eqGuard op t x y (ρc x) (ρc y)).run P w = .ok () w := by
      by_cases hagg : ∃ xs ys, ρ x = .agg xs ∧ ρ y = .agg ys
      · obtain ⟨xs, ys, e1, e2⟩ := hagg
        rw [e1] at hx
        rw [e2] at hy
        obtain ⟨us, e3, _⟩ := hx
        obtain ⟨vs, e4, _⟩ := hy
        rw [e3, e4]
        have hts : ∃ ts, E.eqT t = some ts := by
          rw [e1, e2] at h
          simp only [binOpK] at h
          split at h
          · rename_i ts he; exact ⟨ts, he⟩
          · rename_i ts he; exact ⟨ts, he⟩
          · cases h
        obtain ⟨ts, he⟩ := hts
        obtain ⟨_, _, _, hg3, _⟩ := (hE t).eqs ts he
        exact run_eqGuard_agg w op t x y us vs hg3
      unfold eqGuard
      have : (∃ k n, ρc x = .int k n) ∨ (∃ s, ρc x = .string s) ∨ ∃ b, ρc x = .bool b := by
        generalize ρ x = p at h hx hagg
        generalize ρ y = q at h hy hagg
        cases p <;> first
          | exact .inl ⟨_, _, hx⟩
          | exact .inr (.inl ⟨_, hx⟩)
          | exact .inr (.inr ⟨_, hx⟩)
          | (cases q <;> first | (exact absurd ⟨_, _, rfl, rfl⟩ hagg) | (simp [binOpK] at h))
      rcases this with ⟨k, n, e⟩ | ⟨s, e⟩ | ⟨b, e⟩ <;> rw [e] <;> cases op <;> rfl
    refine hplain (s := do eqGuard op t x y (ρc x) (ρc y); binOp op t (ρc x) (ρc y)) (by simp only [execOp, hop]) ⟨σ, z, h1, ?_, h3⟩
    simp only [Sem.run_bind, hguard, Result.andThen]
    exact h2
  | unOp op t x =>
    rw [hop] at h hρ
    have hx := hρ x (by simp [Op.operands])
    simp only [opK] at h
    split at h
    · rename_i b hb
      rw [hb] at hx
      have hx : ρc x = .bool b := hx
      refine hplain (s := Op.unary .not (ρc x)) (by simp only [execOp, hop]) ⟨_, _, h, ?_, rfl⟩
      rw [hx]; rfl
    · rename_i k n hb
      rw [hb] at hx
      have hx : ρc x = .int k n := hx
      refine hplain (s := Op.unary .neg (ρc x)) (by simp only [execOp, hop]) ⟨_, _, h, ?_, rfl⟩
      rw [hx]; rfl
    · cases h
  | convert s d x =>
    rw [hop] at h hρ
    have hx := hρ x (by simp [Op.operands])
    simp only [opK] at h
    exact hplain (s := convert s d (ρc x)) (by simp only [execOp, hop]) (convertK_ok hE h hx hH)
  | makeInterface t x =>
    rw [hop] at h hρ
    simp only [opK] at h
    have : ∃ d, P.underlying t = some d ∧ ∀ ms, d ≠ .interface ms := by
      split at h
      · rename_i hd; exact ⟨_, (hE t).str hd, fun _ h => by cases h⟩
      · rename_i hd; exact ⟨_, (hE t).int _ hd, fun _ h => by cases h⟩
      · rename_i hd; exact ⟨_, (hE t).bool hd, fun _ h => by cases h⟩
      · cases h
    have hK : K .top H = some r := by
      split at h <;> first | exact h | cases h
    obtain ⟨d, hd, hni⟩ := this
    refine hplain (s := Instr.makeInterface t (ρc x)) (by simp only [execOp, hop]) ⟨.top, .iface t (ρc x), hK, ?_, trivial⟩
    simp only [Instr.makeInterface, Sem.run_bind, run_underlying hd, Result.andThen]
    rfl
  | makeFunc fn first captured =>
    rw [hop] at h hρ
    simp only [opK] at h
    split at h
    · rename_i f hf0 hs
      have hf0 : first = #[] := Array.toList_eq_nil_iff.1 hf0
      subst hf0
      refine hplain (s := Instr.makeFunc (.func f) ((#[] : Array Operand).map ρc) (captured.map ρc)) (by simp only [execOp, hop]) ⟨_, _, h, rfl, ?_⟩
      have : All2 (VR0 F w g) (captured.toList.map ρ) (captured.toList.map ρc) := by
        have hρ' : ∀ y ∈ captured.toList, VR2 F w g (ρ y) (ρc y) := fun y hy => hρ y (by simp [Op.operands]; simpa using hy)
        generalize captured.toList = l at hs hρ'
        induction l with
        | nil => exact .nil
        | cons y l ih =>
          simp only [List.map_cons, List.all_cons, Bool.and_eq_true] at hs
          have hy := hρ' y (by simp)
          have h1 : VR1 F w g (ρ y) (ρc y) := VR2_1 hy fun cs hc => by rw [hc] at hs; cases hs.1
          exact .cons (solid0_low hs.1 h1) (ih hs.2 fun z hz => hρ' z (by simp [hz]))
      exact ⟨captured.map ρc, by simp, by simpa using this⟩
    · cases h
  | slice t x lo hi mx =>
    rw [hop] at h hρ
    have hx := hρ x (by simp [Op.operands])
    have hvo : ∀ y : Option Operand, (∀ z, y = some z → z ∈ (Op.slice t x lo hi mx).operands) → VO F w g (y.map ρ) (y.map ρc) := by
      intro y hy
      cases y with
      | none => trivial
      | some z => exact hρ z (hy z rfl)
    have hlo := hvo lo (by rintro z rfl; simp [Op.operands])
    have hhi := hvo hi (by rintro z rfl; simp [Op.operands])
    have hmx := hvo mx (by rintro z rfl; simp [Op.operands])
    simp only [opK] at h
    split at h
    · rename_i e hd
      obtain ⟨i, z, hi', hsz, hby, hsz2, hz, hzr⟩ := (hE t).elem e (.inl hd)
      rw [← hsz2] at h
      split at h
      · obtain ⟨σ, y, h1, h2, h3⟩ := sliceW_ok ((hE t).slice e hd) hi' h hx hlo hhi hH
        exact hplain (s := Instr.sliceAt t (ρc x) (lo.map ρc) (hi.map ρc) ((none : Option Operand).map ρc)) (by simp only [execOp, hop]) ⟨σ, y, h1, h2, h3⟩
      · rename_i m
        obtain ⟨σ, y, h1, h2, h3⟩ := sliceK_ok (mx := some (ρ (.const m))) (max := some (ρc (.const m))) ((hE t).slice e hd) hi' h hx hlo hhi hmx hH
        exact hplain (s := Instr.sliceAt t (ρc x) (lo.map ρc) (hi.map ρc) ((some (Operand.const m)).map ρc)) (by simp only [execOp, hop]) ⟨σ, y, h1, h2, h3⟩
      · rename_i m _
        obtain ⟨σ, y, h1, h2, h3⟩ := threeK_ok ((hE t).slice e hd) hi' h hx hlo hhi hmx
        exact hplain (s := Instr.sliceAt t (ρc x) (lo.map ρc) (hi.map ρc) ((some m).map ρc)) (by simp only [execOp, hop]) ⟨σ, y, h1, h2, h3⟩
    · rename_i hd
      split at h
      · rename_i s hs
        rw [hs] at hx
        have hx : ρc x = .string s := hx
        obtain ⟨σ, y, h1, h2, h3⟩ := strSlice_ok (P := P) (K := fun v => K v H) ((hE t).str hd) h hlo hhi
        refine hplain (s := Instr.sliceAt t (ρc x) (lo.map ρc) (hi.map ρc) ((none : Option Operand).map ρc)) (by simp only [execOp, hop]) ⟨σ, y, h1, ?_, h3⟩
        rw [hx]; exact h2
      · cases h
    · cases h
  | fieldAddr s x f =>
    rw [hop] at h hρ
    have hx := hρ x (by simp [Op.operands])
    simp only [opK] at h
    split at h
    · rename_i off size agg hf
      split at h
      · rename_i p hsz hp
        have hsz : 0 < size := Nat.le_of_ble_eq_true hsz
        obtain ⟨z, h1, h2⟩ := fieldPtr_ok (w := w) (hE s) hf (by omega) hp hx
        exact hplain (s := Instr.fieldAt s (ρc x) f) (by simp only [execOp, hop]) ⟨p, z, h, h1, h2⟩
      · cases h
    · cases h
  | field s x f =>
    rw [hop] at h hρ
    have hx := hρ x (by simp [Op.operands])
    simp only [opK] at h
    split at h
    · rename_i off size agg cs hf hc
      split at h
      · rename_i hchk
        simp only [Bool.and_eq_true] at hchk
        obtain ⟨hc1, hc2⟩ := hchk
        have hc2 := Nat.le_of_ble_eq_true hc2
        rw [hc] at hx
        obtain ⟨vs, hv, hall⟩ := hx
        obtain ⟨fs, fd, i, hu, hfd, hoff, hi, hs, hagg⟩ := (hE s).flds f off size agg hf
        have hlen := hall.length
        obtain ⟨h1, h2⟩ := take_drop_cells hall (j := off) (size := size) (by omega)
        obtain ⟨m1, m2⟩ := mkVal_ok h1 h2 hc1
        have hp : ∃ z, (part fd.type vs fd.offset).run P w = .ok z w ∧ VR1 F w g (mkVal agg ((cs.drop off).take size)) z := by
          cases agg with
          | true =>
            obtain ⟨cs', e1, e2⟩ := m1 rfl
            refine ⟨.agg (vs.extract off (off + size)), ?_, ?_⟩
            · simp only [part, Sem.run_bind, congrFun hagg w, Result.andThen, if_true, run_sizeOf hi, hoff, hs]
              rfl
            · rw [e1]
              refine ⟨_, rfl, ?_⟩
              rw [Array.toList_extract, List.extract_eq_take_drop, show off + size - off = size by omega]
              exact e2
          | false =>
            obtain ⟨z, e1, e2⟩ := m2 rfl
            refine ⟨z, ?_, VR2_1 (VR0_2 e2) fun cs h => by rw [h] at e2; exact e2⟩
            have hz : vs[off]? = some z := by
              have : ((vs.toList.drop off).take size)[0]? = some z := by rw [e1]; rfl
              have := (part_get this).2
              simpa using this
            simp only [part, Sem.run_bind, congrFun hagg w, Result.andThen, Bool.false_eq_true, if_false, hoff, hz]
            rfl
        obtain ⟨z, hz1, hz2⟩ := hp
        refine hplain (s := Instr.field s (ρc x) f) (by simp only [execOp, hop]) ⟨_, z, h, ?_, VR1_2 hz2⟩
        rw [hv]
        simp only [Instr.field, Sem.run_bind, run_underlying hu, Result.andThen, hfd, asAgg, Sem.run_pure]
        exact hz1
      · cases h
    · cases h
  | indexAddr t x i =>
    rw [hop] at h hρ
    have hx := hρ x (by simp [Op.operands])
    have hi := hρ i (by simp [Op.operands])
    simp only [opK] at h
    split at h
    · rename_i e k j hd hj
      rw [hj] at hi
      have hi : ρc i = .int k j := hi
      obtain ⟨inf, z, hi', hsz, hby, hsz2, hz, hzr⟩ := (hE t).elem e (.inl hd)
      rw [← hsz2] at h
      obtain ⟨σ, y, h1, h2, h3⟩ := idxK_ok (w := w) (k := k) ((hE t).slice e hd) hi' h hx
      refine hplain (s := Instr.indexAt t (ρc x) (ρc i)) (by simp only [execOp, hop]) ⟨σ, y, h1, ?_, h3⟩
      rw [hi]; exact h2
    · rename_i m e k j hd hj
      rw [hj] at hi
      have hi : ρc i = .int k j := hi
      obtain ⟨inf, z, hi', hsz, hby, hsz2, hz, hzr⟩ := (hE t).elem e (.inr ⟨m, hd⟩)
      rw [← hsz2] at h
      obtain ⟨σ, y, h1, h2, h3⟩ := idxA_ok (w := w) (k := k) ((hE t).array m e hd) hi' h hx
      refine hplain (s := Instr.indexAt t (ρc x) (ρc i)) (by simp only [execOp, hop]) ⟨σ, y, h1, ?_, h3⟩
      rw [hi]; exact h2
    · cases h
  | index t x i =>
    rw [hop] at h hρ
    have hx := hρ x (by simp [Op.operands])
    have hi := hρ i (by simp [Op.operands])
    simp only [opK] at h
    split at h
    · rename_i s k j hd hs hj
      rw [hs] at hx
      rw [hj] at hi
      have hx : ρc x = .string s := hx
      have hi : ρc i = .int k j := hi
      obtain ⟨h1, h2⟩ := cond_some h
      have h3 := of_decide_eq_true h1
      have hlt : j.toNat < s.size := by omega
      refine hplain (s := Instr.index t (ρc x) (ρc i)) (by simp only [execOp, hop]) ⟨_, _, h2, ?_, rfl⟩
      rw [hx, hi]
      have hget : s[j.toNat]? = some (s.data.toList.getD j.toNat 0) := by
        have hd' : j.toNat < s.data.size := hlt
        rw [List.getD, Array.getElem?_toList, Array.getElem?_eq_getElem hd']
        simp [getElem?_pos, hlt]
        rfl
      simp only [Instr.index, asIntOf, Sem.run_bind, Sem.run_pure, run_underlying ((hE t).str hd), Result.andThen, if_pos h3.1, hget]
      rfl
    · rename_i n e cs k j hd hs hj
      split at h
      · rename_i l hag hsz hstr
        rw [hs] at hx
        rw [hj] at hi
        obtain ⟨vs, hv, hall⟩ := hx
        have hi : ρc i = .int k j := hi
        obtain ⟨h1, h2⟩ := cond_some h
        obtain ⟨q1, q2, q3⟩ := of_decide_eq_true h1
        have hsz := Nat.eq_of_beq_eq_true hsz
        obtain ⟨inf, z, hinf, his, _, hagg, _⟩ := (hE e).info (by omega)
        have hm := strsOf_ok hstr hall
        have hlt : j.toNat < l.length := by omega
        have hget : vs[j.toNat]? = some (.string (nth .str l j.toNat)) := by
          rw [← Array.getElem?_toList, hm, List.getElem?_map, List.getElem?_eq_getElem hlt]
          simp only [Option.map_some, nth, List.getD, List.getElem?_eq_getElem hlt, Option.getD_some]
        refine hplain (s := Instr.index t (ρc x) (ρc i)) (by simp only [execOp, hop]) ⟨_, _, h2, ?_, rfl⟩
        rw [hv, hi]
        simp only [Instr.index, asIntOf, Sem.run_bind, Sem.run_pure, run_underlying ((hE t).array n e hd), Result.andThen, if_pos (show 0 ≤ j ∧ j < (n : Int) from ⟨q1, q3⟩), run_sizeOf hinf, his, hsz, part, congrFun hagg w, hag, Bool.false_eq_true, if_false, Nat.mul_one, hget]
      · split at h
        · rename_i l hq hl
          simp only [Bool.and_eq_true, Bool.not_eq_true'] at hq
          obtain ⟨⟨⟨b1, b2⟩, b3⟩, b4⟩ := hq
          have b2 := Nat.eq_of_beq_eq_true b2
          rw [hs] at hx
          rw [hj] at hi
          obtain ⟨vs, hv, hall⟩ := hx
          have hi : ρc i = .int k j := hi
          obtain ⟨h1, h2⟩ := cond_some h
          have h3 := of_decide_eq_true h1
          obtain ⟨k1, k2, k3⟩ := rowsOf_ok b1 n cs vs.toList l hl hall
          obtain ⟨inf, z, hinf, his, hby, his2, _⟩ := (hE t).elem e (.inr ⟨n, hd⟩)
          have hne : (E.ti e).size ≠ 1000000000 := by
            have : (E.ti e).size < 1000000000 := Nat.le_of_ble_eq_true b4
            omega
          obtain ⟨inf', z', hinf', his', _, hagg, _⟩ := (hE e).info hne
          have hlt : j.toNat < l.length := by omega
          obtain ⟨us, c1, c2⟩ := k3 _ _ (nth_get hlt)
          have hlen := CR_len _ _ _ c1
          have hex := explode_ok (g := g) _ _ us c1
          obtain ⟨m1, m2⟩ := mkVal_ok hex (size := (E.ti e).size) (by omega) b3
          have hbd : j.toNat * (E.ti e).ty.size + (E.ti e).ty.size ≤ vs.toList.length := by
            rw [k2]
            have : (j.toNat + 1) * (E.ti e).ty.size ≤ n * (E.ti e).ty.size := Nat.mul_le_mul_right _ (by omega)
            rw [Nat.succ_mul] at this
            exact this
          have hrun : ∀ y : Value, (part e vs (j.toNat * (E.ti e).size)).run P w = .ok y w → (Instr.index t (.agg vs) (.int k j)).run P w = .ok y w := by
            intro y hy
            simp only [Instr.index, asIntOf, Sem.run_bind, Sem.run_pure, run_underlying ((hE t).array n e hd), Result.andThen, if_pos h3, run_sizeOf hinf', his']
            exact hy
          have hp : ∃ y, (part e vs (j.toNat * (E.ti e).size)).run P w = .ok y w ∧ VR1 F w g (mkVal (E.ti e).agg (explode (E.ti e).ty (nth (E.ti e).ty l j.toNat))) y := by
            cases hag : (E.ti e).agg with
            | true =>
              rw [hag] at m1
              obtain ⟨cs', e1, e2⟩ := m1 rfl
              refine ⟨.agg (vs.extract (j.toNat * (E.ti e).size) (j.toNat * (E.ti e).size + (E.ti e).size)), ?_, ?_⟩
              · simp only [part, Sem.run_bind, congrFun hagg w, hag, Result.andThen, if_true, run_sizeOf hinf', his']
                rfl
              · rw [e1]
                refine ⟨_, rfl, ?_⟩
                have : (vs.extract (j.toNat * (E.ti e).size) (j.toNat * (E.ti e).size + (E.ti e).size)).toList = us := by
                  apply List.ext_getElem?
                  intro m
                  rw [Array.toList_extract, List.extract_eq_take_drop, show j.toNat * (E.ti e).size + (E.ti e).size - j.toNat * (E.ti e).size = (E.ti e).size by omega, List.getElem?_take]
                  by_cases hm : m < (E.ti e).size
                  · rw [if_pos hm, List.getElem?_drop]
                    have hm' : m < us.length := by omega
                    have := c2 m us[m] (by simp [hm'])
                    rw [b2, this]; simp [hm']
                  · rw [if_neg hm, List.getElem?_eq_none (by omega)]
                rw [this]
                exact e2
            | false =>
              rw [hag] at m2
              obtain ⟨y, e1, e2⟩ := m2 rfl
              subst e1
              refine ⟨y, ?_, VR2_1 (VR0_2 e2) fun cs h => by rw [h] at e2; exact e2⟩
              have hz : vs[j.toNat * (E.ti e).size]? = some y := by
                have := c2 0 y rfl
                rw [← Array.getElem?_toList, b2]; simpa using this
              simp only [part, Sem.run_bind, congrFun hagg w, hag, Result.andThen, Bool.false_eq_true, if_false, hz]
              rfl
          obtain ⟨y, y1, y2⟩ := hp
          refine hplain (s := Instr.index t (ρc x) (ρc i)) (by simp only [execOp, hop]) ⟨_, y, h2, ?_, VR1_2 y2⟩
          rw [hv, hi]
          exact hrun y y1
        · cases h
    · cases h
  | extract t i =>
    rw [hop] at h hρ
    have hx := hρ t (by simp [Op.operands])
    simp only [opK] at h
    split at h
    · rename_i vs hv
      split at h
      · rename_i v hvi
        rw [hv] at hx
        obtain ⟨ws, hw, hall⟩ := hx
        obtain ⟨z, hz, hzv⟩ := hall.get i v hvi
        refine hplain (s := Instr.extract (ρc t) i) (by simp only [execOp, hop]) ⟨v, z, h, ?_, VR1_2 hzv⟩
        rw [hw]
        have hz' : ws[i]? = some z := by simpa using hz
        simp only [Instr.extract, hz']
        rfl
      · cases h
    · cases h
  | makeSlice t l c =>
    rw [hop] at h hρ
    have hl := hρ l (by simp [Op.operands])
    have hc := hρ c (by simp [Op.operands])
    simp only [opK] at h
    split at h
    · rename_i e k lv k' cv hd h1 h2
      rw [h1] at hl
      rw [h2] at hc
      have hl : ρc l = .int k lv := hl
      have hc : ρc c = .int k' cv := hc
      obtain ⟨h3, h4⟩ := cond_some h
      have h5 := of_decide_eq_true h3
      obtain ⟨w', g', y, hr, a, b, q⟩ := makeSlice_ok (k := k) (k' := k') (hE t) hd h5.1 h5.2.1 h5.2.2 hH hB
      have : execOp ρc o = (do pure (.value (← Instr.makeSlice t (ρc l) (ρc c)))) := by simp only [execOp, hop]
      rw [this, hl, hc]
      exact OpOk.mem hr h4 (VR0_2 q) a b
    · cases h
  | makeMap t r =>
    rw [hop] at h
    cases r with
    | some r => simp [opK] at h
    | none =>
      simp only [opK] at h
      split at h
      · obtain ⟨g', a, b, k⟩ := new_map hH hB
        have : execOp ρc o = (do pure (.value (← Instr.makeMap t none))) := by simp only [execOp, hop, Option.map_none]
        rw [this]
        exact OpOk.mem (run_makeMap0 t) h (VR0_2 k) a b
      · cases h
  | lookup t x i c =>
    rw [hop] at h hρ
    have hx := hρ x (by simp [Op.operands])
    have hi := hρ i (by simp [Op.operands])
    cases c with
    | true => simp [opK] at h
    | false =>
      simp only [opK] at h
      split at h
      · rename_i k e hd
        split at h
        · rename_i s id hk he h1 h2
          split at h
          · rename_i m hb
            rw [h1] at hi
            rw [h2] at hx
            have hi : ρc i = .string s := hi
            have := map_lookup hE hd hk he (s := s) hb hx hH
            refine hplain (s := Instr.lookup t (ρc x) (ρc i) false) (by simp only [execOp, hop]) ⟨_, _, h, ?_, rfl⟩
            rw [hi]; exact this
          · cases h
        · cases h
      · cases h
  | mapUpdate t x i v =>
    rw [hop] at h hρ
    have hx := hρ x (by simp [Op.operands])
    have hi := hρ i (by simp [Op.operands])
    have hv := hρ v (by simp [Op.operands])
    simp only [opK] at h
    split at h
    · rename_i k e hd
      split at h
      · rename_i s b id hk h1 h2 h3
        split at h
        · rename_i m hb
          rw [h1] at hi
          rw [h2] at hv
          rw [h3] at hx
          have hi : ρc i = .string s := hi
          have hv : ρc v = .bool b := hv
          obtain ⟨w', hr, hg, hH'⟩ := map_update hE hd hk (s := s) (b := b) hb hx hH
          refine ⟨.top, _, undef, w', F, g, h, .inr ⟨?_, rfl⟩, trivial, hg, hH'⟩
          simp only [execOp, hop, hi, hv, Sem.run_bind, hr, Result.andThen, Sem.run_pure]
        · cases h
      · cases h
    · cases h
  | _ => rw [hop] at h; simp [opK] at h
end
end Go.Proofs.YtmojilihllhadaaGreatDoor.Ev
/- A stretch of an own slice is written over: clear, copy. -/
namespace Go.Proofs.YtmojilihllhadaaGreatDoor.Ev
open Go Go.RowKit
set_option linter.unusedVariables false
set_option linter.unusedSimpArgs false
section
variable {α : Type} {P : Program} {E : Env} {B : Nat → Prop} {F : Fz} {g : List GE} {w : World} {H : Hp}
theorem own_place {v : AV} {id off n : Nat} {sz : Nat} {u : Value} (hv : v = .all id sz n ∧ off = 0 ∨ v = .own id sz off n) (h : VR0 F w g v u) :
    ∃ e A c, g[id]? = some e ∧ u = .slice A n c ∧ off + n ≤ e.n ∧ e.sz = sz ∧ (0 < n → A = some ⟨e.ad.block, e.ad.off + off * e.sz, none⟩) ∧ (A = none → n = 0) := by
  rcases hv with ⟨rfl, rfl⟩ | rfl
  · obtain ⟨e, A, h1, h2, h3, h4, rfl, h6, h7⟩ := h
    have hA : 0 < n → A = some ⟨e.ad.block, e.ad.off + 0 * e.sz, none⟩ := fun hn => by
      rw [h6 (by omega)]
      have : e.ad = ⟨e.ad.block, e.ad.off, none⟩ := by rw [← h4]
      simp only [Nat.zero_mul, Nat.add_zero]
      rw [← this]
    refine ⟨e, A, _, h1, rfl, by omega, h3, hA, fun hn => ?_⟩
    rcases Nat.eq_zero_or_pos n with h0 | h0
    · exact h0
    · rw [hA h0] at hn; cases hn
  · obtain ⟨e, A, h1, h2, h3, h4, rfl, h6⟩ := h
    refine ⟨e, A, _, h1, rfl, h2, h3, fun hn => h6 (by omega), fun hn => ?_⟩
    rcases Nat.eq_zero_or_pos n with h0 | h0
    · exact h0
    · rw [h6 (by omega)] at hn; cases hn
theorem clear_at {t : TypeId} {e : TypeId} (hE : TiOk P E t) (hd : (E.ti t).d = .slice e) {ty : TypeId} {v : AV} {id off n sz : Nat} {u : Value} (hv : v = .all id sz n ∧ off = 0 ∨ v = .own id sz off n) (h : VR0 F w g v u) (hH : HR B F w g H)
    {l : List (E.ti e).ty.den} (hb : H[id]? = some (.arr (E.ti e).ty l false)) :
    ∃ w', (Builtin.clear_ #[t] ty #[u]).run P w = .ok (.tuple #[]) w' ∧ Gr B F g w F g w' ∧ HR B F w' g (H.set id (.arr (E.ti e).ty (splice l off (List.replicate n (E.ti e).ty.dft)) false)) := by
  obtain ⟨i, z, hi, hsz, hby, hsz2, hz, hzr⟩ := hE.elem e (.inl hd)
  have hu := hE.slice e hd
  obtain ⟨ge, A, c, h1, rfl, h3, h4, h5, h6⟩ := own_place hv h
  obtain ⟨b1, b2, b3, b4, b5⟩ := hH.blk id _ ge hb h1
  have hlaid := laid_zero (F := F) (w := w) (hzr F w) n
  obtain ⟨w', k1, k2, k3, k4⟩ := splice_ok (P := P) (off := off) (A := A) hH hb h1 (by simp; omega) hlaid (fun hn => by rw [← b1]; exact h5 (by simpa using hn))
  refine ⟨w', ?_, k3, k4⟩
  have hz0 : (zeroValue e).run P w = .ok z w := by simp [zeroValue, typeInfo, program, Sem.run_bind, Sem.run, hi, hz, Result.andThen]
  cases A with
  | none =>
    rw [k2 rfl]
    simp [Builtin.clear_, run_underlying hu]
  | some a =>
    cases n with
    | zero =>
      have := k1 a rfl
      have hw : w' = w := by
        have hc : ((Array.range (0 * (E.ti e).ty.size)).map (z.cells[· % z.cells.size]!)).toList = [] := by simp
        rw [hc] at this
        cases this; rfl
      rw [hw]
      simp [Builtin.clear_, run_underlying hu]
    | succ n =>
      have := k1 a rfl
      have hzs : z.cells.size = (E.ti e).ty.size := by have := CR_len _ _ _ (hzr F w); simpa using this
      have hzc : Builtin.zeroCells z.cells (n + 1) = (Array.range ((n + 1) * (E.ti e).ty.size)).map (z.cells[· % z.cells.size]!) := by
        unfold Builtin.zeroCells; rw [hzs]
      have this' : (storeCells a (Builtin.zeroCells z.cells (n + 1)).toList).run P w = .ok () w' := by rw [hzc]; exact this
      simp [Builtin.clear_, run_underlying hu, hz0, Result.andThen, this']
theorem clearK_ok {t e : TypeId} (hE : TiOk P E t) (hd : (E.ti t).d = .slice e) {ty : TypeId} {x : AV} {u : Value} {K : AV → Hp → Option α} {r : α} (h : clearK (E.ti e).ty x H K = some r) (hx : VR2 F w g x u) (hH : HR B F w g H) :
    ∃ σ H' y w', K σ H' = some r ∧ (Builtin.clear_ #[t] ty #[u]).run P w = .ok y w' ∧ VR2 F w' g σ y ∧ Gr B F g w F g w' ∧ HR B F w' g H' := by
  have hu := hE.slice e hd
  cases x with
  | emp =>
    obtain ⟨A, rfl⟩ := hx
    refine ⟨.top, H, .tuple #[], w, h, ?_, trivial, Gr.refl .., hH⟩
    cases A <;> simp [Builtin.clear_, run_underlying hu]
  | all id sz n =>
    simp only [clearK] at h
    split at h
    · rename_i t' l hb
      split at h
      · rename_i l' hl
        obtain ⟨rfl, rfl⟩ := castL_some hl
        obtain ⟨w', k1, k2, k3⟩ := clear_at hE hd (ty := ty) (off := 0) (.inl ⟨rfl, rfl⟩) hx hH hb
        exact ⟨_, _, _, w', h, k1, trivial, k2, k3⟩
      · cases h
    · cases h
  | own id sz off n =>
    simp only [clearK] at h
    split at h
    · rename_i t' l hb
      split at h
      · rename_i l' hl
        obtain ⟨rfl, rfl⟩ := castL_some hl
        obtain ⟨w', k1, k2, k3⟩ := clear_at hE hd (ty := ty) (off := off) (.inr rfl) hx hH hb
        exact ⟨_, _, _, w', h, k1, trivial, k2, k3⟩
      · cases h
    · cases h
  | _ => cases h
end
end Go.Proofs.YtmojilihllhadaaGreatDoor.Ev
/- Texts that are appended to bytes; unsafe.SliceData, unsafe.String. -/
namespace Go.Proofs.YtmojilihllhadaaGreatDoor.Ev
open Go Go.RowKit
set_option linter.unusedVariables false
set_option linter.unusedSimpArgs false
section
variable {α : Type} {P : Program} {E : Env} {B : Nat → Prop} {F : Fz} {g : List GE} {w : World} {H : Hp}
theorem strBytes_len (b : ByteArray) : (strBytes b).length = b.size := by
  unfold strBytes
  rw [List.length_map, Go.Lib.toList_data, Go.Lib.size_eq]
theorem str_cells (b : ByteArray) : b.data.map (fun c => Value.int .u8 (c.toNat : Int)) = ((strBytes b).map (Value.int .u8)).toArray := by
  apply Array.ext'
  simp [strBytes, Go.Lib.toList_data]
theorem nilS_ok {s : AV} {u : Value} (h : VR2 F w g s u) : VR2 F w g (nilS s) u := by
  unfold nilS
  split
  · have h : u = .slice none 0 0 := h
    exact ⟨none, h⟩
  · exact h
theorem appendStr_ok {t : Ty} {st xt ty e : TypeId} {i : TypeInfo} {z : Value} (hu : (.int .u8 : Ty) = .int .u8 → e = u8T) (ht : P.underlying st = some (.slice e)) (hxt : P.underlying xt = some .string) (hi : P.info? e = some i)
    (hsz : i.size = 1) (hby : i.bytes ≤ 1024) (hz : i.zero = some z) (hzs : z.cells.size = 1) {s : AV} {b : ByteArray} {u v : Value} {K : AV → Hp → Option α} {r : α}
    (h : appendL (.int .u8) (nilS s) (strBytes b) H K = some r) (hs : VR2 F w g s u) (hx : VR2 F w g (.str b) v) (hH : HR B F w g H) (hB : Bs B w) :
    ∃ σ H' y w' F' g', K σ H' = some r ∧ (Builtin.append_ #[st, xt] ty #[u, v]).run P w = .ok y w' ∧ VR2 F' w' g' σ y ∧ Gr B F g w F' g' w' ∧ HR B F' w' g' H' := by
  have hx : v = .string b := hx
  subst hx
  have hlen := strBytes_len b
  have hfc : ∀ w' : World, (Builtin.firstCells i.size (strBytes b).length (.string b)).run P w' = .ok ((strBytes b).map (Value.int .u8)).toArray w' := by
    intro w'
    have e : b.extract 0 b.size = b := by
      apply ByteArray.ext
      simp
    simp only [Builtin.firstCells, hlen, e, str_cells, Sem.run_pure]
  have hb : b.size = (strBytes b).length := hlen.symm
  refine appendL_ok (t := .int .u8) (cs := (strBytes b).map (Value.int .u8)) hu hsz hzs ⟨fun h1 h2 h3 => ?_, fun h1 h2 h3 => ?_⟩ (by simp [Ty.size]) (fun j x hj hx => ?_) (fun v hv => ?_) h (nilS_ok hs) hH hB
  · have := run_append_inS (ty := ty) ht hxt hi hb (hfc w) (by rw [hb]; exact h1) h2 h3
    rw [hb] at this; exact this
  · have := run_append_outS (ty := ty) ht hxt hi hz hby hb (hfc w.drew) h1 (by rw [hb]; exact h2) (by rw [hb]; exact h3)
    rw [hb] at this; exact this
  · refine ⟨[.int .u8 x], rfl, fun q u hq => ?_⟩
    have hq0 : q = 0 := by have := idx_lt hq; simp at this; exact this
    subst hq0
    simp only [List.getElem?_cons_zero] at hq
    cases hq
    simp [Ty.size, hx]
  · obtain ⟨x, _, rfl⟩ := List.mem_map.1 hv
    rfl
theorem loadB : ∀ (l : List Int) (a : Addr) (acc : ByteArray), (∀ (j : Nat) x, l[j]? = some x → w.cell? (a.add j) = some (.int .u8 x)) →
    (loadBytes a acc l.length).run P w = .ok ⟨acc.data ++ (l.map fun n => UInt8.ofNat n.toNat).toArray⟩ w
  | [], a, acc, _ => by simp [loadBytes]
  | x :: l, a, acc, h => by
    have h0 : w.cell? a = some (.int .u8 x) := by
      have := h 0 x rfl
      simpa [Addr.add] using this
    have ih := loadB l (a.add 1) (acc.push (x.toNat).toUInt8) (fun j y hy => by
      have := h (j + 1) y (by simpa using hy)
      have e : (a.add 1).add j = a.add (j + 1) := by
        unfold Addr.add
        by_cases hj : j = 0
        · subst hj; simp
        · simp [hj]; omega
      rw [e]; exact this)
    simp only [List.length_cons, loadBytes, Sem.run_bind, run_load, h0, Result.andThen]
    rw [ih]
    congr 1
    apply ByteArray.ext
    simp [ByteArray.push]
theorem liesB {e : TypeId} (hc : P.cellsOf e = 1) (count off n : Nat) (hn : off + n ≤ count) : liesAt P P.depth e count off e n = true := by
  have hd : P.depth = (2 * (P.types.size + Made.depth) + 1) + 1 := rfl
  rw [hd]
  simp only [liesAt, Bool.or_eq_true]
  left
  rw [hd]
  simp [rowAt, hc, hn, sameLayout, Nat.mod_one]
theorem run_ustr (pt it ty e : TypeId) (hp : P.underlying pt = some (.pointer e)) (hc : P.cellsOf e = 1) (b off cells : Nat) (hsh : w.shape? b = some (e, cells)) (l : List Int) (h0 : 0 < l.length) (hn : off + l.length ≤ cells) (h63 : l.length < 4294967296)
    (hcell : ∀ (j : Nat) x, l[j]? = some x → w.cell? ⟨b, off + j, none⟩ = some (.int .u8 x)) :
    (Builtin.unsafeString_ #[pt, it] ty #[.pointer (some ⟨b, off, none⟩), .int .i64 l.length]).run P w = .ok (.string (bytesStr l)) (w.freeze ⟨b, off, none⟩ l.length) := by
  have hl : l.length ≠ 0 := by omega
  have hl' : l ≠ [] := fun h => hl (by rw [h]; rfl)
  have hlb := loadB (P := P) (w := w) l ⟨b, off, none⟩ .empty (fun j x hj => by rw [Addr.add_plain _ rfl]; exact hcell j x hj)
  have hlies := liesB (P := P) hc (cells / P.cellsOf e) off l.length (by rw [hc]; simpa using hn)
  have h63' : ¬ (9223372036854775807 : Int) < (l.length : Int) := by omega
  have hdef : Builtin.unsafeString_ #[pt, it] ty #[.pointer (some ⟨b, off, none⟩), .int .i64 l.length] =
      (do
        let n ← asInt (.int .i64 l.length)
        if n < 0 then runtimePanic (.error "unsafe.String: len out of range")
        if n > IntKind.i64.max then unsupported (.unsafePointer "String: a length above the largest int")
        if n = 0 then pure (.string .empty)
        else if ← variablesAt ⟨b, off, none⟩ (← elemOf pt) n.toNat then do
          let s ← loadBytes ⟨b, off, none⟩ .empty n.toNat
          freeze ⟨b, off, none⟩ n.toNat
          pure (.string s)
        else unsupported (.unsafePointer "String: not so many bytes at ptr")) := rfl
  rw [hdef]
  have hmax : IntKind.i64.max = 9223372036854775807 := rfl
  have hneg : ¬ (l.length : Int) < 0 := by omega
  simp [asInt, asIntOf, hmax, h63', hneg, hl, hl', variablesAt, hsh, elemOf, run_underlying hp, hlies, hlb, bytesStr]
theorem sliceData_ok {ts : Array TypeId} {ty : TypeId} {x : AV} {u : Value} {K : AV → Hp → Option α} {r : α} (h : sliceDataK x H K = some r) (hx : VR2 F w g x u) :
    ∃ σ v, K σ H = some r ∧ (Builtin.unsafeSliceData_ ts ty #[u]).run P w = .ok v w ∧ VR2 F w g σ v := by
  unfold sliceDataK at h
  split at h
  · have hx : u = .slice none 0 0 := hx
    subst hx
    exact ⟨_, _, h, rfl, rfl⟩
  · rename_i id sz n
    · obtain ⟨hn, h⟩ := cond_some h
      have hn : 0 < n := of_decide_eq_true hn
      obtain ⟨e, A, h1, h2, h3, h4, rfl, h6, h7⟩ := hx
      have hA := h6 (by omega)
      subst hA
      refine ⟨_, _, h, Go.Lib.run_unsafeSliceData_row w ts ty e.ad n e.cap (by omega), e, h1, by omega, ?_⟩
      have had : (⟨e.ad.block, e.ad.off, none⟩ : Addr) = e.ad := by
        cases hh : e.ad with
        | mk bb oo ss => rw [hh] at h4; simp only at h4; subst h4; rfl
      simp only [Nat.zero_mul, Nat.add_zero, had]
  · cases h
theorem ustr_ok (hE : ∀ t, TiOk P E t) {pt it ty : TypeId} {p : AV} {n : Int} {u : Value} {K : AV → Hp → Option α} {r : α}
    (h : ustrK E pt p n H K = some r) (hx : VR2 F w g p u) (hH : HR B F w g H) (hB : Bs B w) :
    ∃ σ H' y w', K σ H' = some r ∧ (Builtin.unsafeString_ #[pt, it] ty #[u, .int .i64 n]).run P w = .ok y w' ∧ VR2 F w' g σ y ∧ Gr B F g w F g w' ∧ HR B F w' g H' := by
  unfold ustrK at h
  split at h
  · rename_i e hd
    split at h
    · rename_i hchk
      simp only [Bool.and_eq_true] at hchk
      have he := Nat.eq_of_beq_eq_true hchk.1
      subst he
      have hs1 := Nat.eq_of_beq_eq_true hchk.2
      obtain ⟨i, z, hi, hsz, _⟩ := (hE u8T).info (by omega)
      have hc : P.cellsOf u8T = 1 := by simp [Program.cellsOf, hi, hsz, hs1]
      have hp := (hE pt).ptr _ hd
      split at h
      · obtain ⟨hn, hK⟩ := cond_some h
        have hn := of_decide_eq_true hn
        subst hn
        have hx : u = .pointer none := hx
        subst hx
        exact ⟨_, _, _, w, hK, Go.Lib.run_unsafeString_none w pt it ty none, rfl, Gr.refl .., hH⟩
      · rename_i id
        split at h
        · rename_i t' lx hb
          split at h
          · rename_i l hl'
            obtain ⟨rfl, hll⟩ := castL_some hl'
            obtain ⟨hcnd, hK⟩ := cond_some h
            obtain ⟨hn, hpos, hbig⟩ := of_decide_eq_true hcnd
            subst hn
            subst hll
            obtain ⟨e, h1, h2, rfl⟩ := hx
            obtain ⟨k1, k2, k3, k4, k5⟩ := hH.blk id _ _ hb h1
            have hcap : 0 < e.cap := by omega
            obtain ⟨cur, el, k7, ku, k8, k9⟩ := k5 hcap
            have hel := ku rfl
            subst hel
            have hsh : w.shape? e.ad.block = some (u8T, cur.size) := by simp [World.shape?, k7]
            have hone : (Ty.int IntKind.u8).size = 1 := rfl
            rw [hone] at k1 k8 k9
            have hcell : ∀ (j : Nat) x, l[j]? = some x → w.cell? ⟨e.ad.block, e.ad.off + j, none⟩ = some (.int .u8 x) := by
              intro j x hj
              obtain ⟨us, q1, q2⟩ := k9 j x hj
              simp only [CR] at q1
              subst q1
              have := q2 0 _ rfl
              simp only [Nat.mul_one, Nat.add_zero] at this
              simp only [World.cell?, k7]
              exact this
            have hrun := run_ustr (P := P) (w := w) pt it ty u8T hp hc e.ad.block e.ad.off cur.size hsh l hpos (by omega) hbig hcell
            have hset := HR_set (w' := w.freeze ⟨e.ad.block, e.ad.off, none⟩ l.length) (b' := .dead) hH hb h1 hcap (.inr (.inl ⟨_, _, rfl⟩)) (by unfold World.freeze; split <;> rfl) (by unfold World.freeze; split <;> rfl) (by unfold World.freeze; split <;> rfl)
              (by unfold World.freeze; split <;> simp)
              (fun k hk => by
                unfold World.freeze
                split
                · rfl
                · simp only [Array.getElem?_modify]; rw [if_neg (Ne.symm hk)]) (fun _ => trivial) (by intro _ _ h; cases h)
            refine ⟨_, _, _, _, hK, ?_, rfl, hset.1, hset.2⟩
            simp only [Nat.zero_mul, Nat.add_zero]
            exact hrun
          · cases h
        · cases h
      · cases h
    · cases h
  · cases h
end
end Go.Proofs.YtmojilihllhadaaGreatDoor.Ev
/- The built-in functions; the state of a walk. -/
namespace Go.Proofs.YtmojilihllhadaaGreatDoor.Ev
open Go Go.RowKit
set_option linter.unusedVariables false
set_option linter.unusedSimpArgs false
section
variable {α : Type} {P : Program} {E : Env} {B : Nat → Prop} {F : Fz} {g : List GE} {w : World} {H : Hp}
theorem lenOf_ok {x : AV} {u : Value} {n : Nat} (h : lenOf x = some n) (hx : VR2 F w g x u) : (∃ s, x = .str s ∧ u = .string s ∧ n = s.size) ∨ ((∀ s, x ≠ .str s) ∧ ∃ A c, u = .slice A n c) := by
  cases x <;> simp only [lenOf] at h <;> try (cases h; done)
  · cases h; exact .inl ⟨_, rfl, hx, rfl⟩
  · cases h
    have hx : CR F w (.sl _) _ [u] := hx
    simp only [CR] at hx
    obtain ⟨A, c, h1, _⟩ := hx
    cases h1; exact .inr ⟨by (intro s h; cases h), _, _, rfl⟩
  · cases h
    obtain ⟨A, rfl⟩ := hx; exact .inr ⟨by (intro s h; cases h), _, _, rfl⟩
  · cases h
    obtain ⟨e, A, _, _, _, _, rfl, _⟩ := hx; exact .inr ⟨by (intro s h; cases h), _, _, rfl⟩
  · cases h
    obtain ⟨e, A, _, _, _, _, rfl, _⟩ := hx; exact .inr ⟨by (intro s h; cases h), _, _, rfl⟩
  · split at h
    all_goals try (cases h; done)
    all_goals rename_i heq
    all_goals try (cases heq; done)
    cases heq
    cases h
    have hx : u = .slice none 0 0 := hx
    exact .inr ⟨by (intro s h; cases h), _, _, hx⟩
theorem minMaxK_ok {mx : Bool} {vs : List AV} {us : List Value} {K : AV → Option α} {r : α} (h : minMaxK mx vs K = some r) (hx : All2 (VR2 F w g) vs us) :
    ∃ σ z, K σ = some r ∧ VR2 F w g σ z ∧ ∀ ts ty, ((match mx with | true => Builtin.max_ ts ty us.toArray | false => Builtin.min_ ts ty us.toArray) : Sem Value).run P w = .ok z w := by
  unfold minMaxK at h
  split at h
  · rename_i k x k' y
    split at h
    · rename_i hk
      subst hk
      cases hx with
      | cons h1 hx =>
        cases hx with
        | cons h2 hx =>
          cases hx
          have h1 : _ = Value.int k x := h1
          have h2 : _ = Value.int k y := h2
          subst h1 h2
          cases mx <;> exact ⟨_, _, h, rfl, fun _ _ => rfl⟩
    · cases h
  · cases h
theorem builtinK_ok (hE : ∀ t, TiOk P E t) {b : Builtin} {argTypes : Array TypeId} {ty : TypeId} {cs : Array Bool} {vs : List AV} {us : List Value} {K : AV → Hp → Option α} {r : α}
    (h : builtinK E b argTypes vs H K = some r) (hx : All2 (VR2 F w g) vs us) (hH : HR B F w g H) (hB : Bs B w) :
    OpOk B F g w ((builtin b argTypes ty cs us.toArray).run P w) (fun σ H' => K σ H' = some r) := by
  unfold builtinK at h
  split at h
  · -- len
    rename_i x
    split at h
    · rename_i t ht
      split at h
      · rename_i n hn
        cases hx with
        | cons h1 hx =>
          rename_i u us'
          cases hx
          split at h
          · rename_i hd
            rcases lenOf_ok hn h1 with ⟨s, rfl, rfl, rfl⟩ | ⟨hns, _⟩
            · refine OpOk.plain (r := Builtin.len_ argTypes ty #[.string s]) ?_ hH h rfl
              have hat : argTypes = #[t] := by rw [← Array.toArray_toList (xs := argTypes), ht]
              subst hat
              simp [Builtin.len_, run_underlying ((hE t).str hd), goInt]
            · cases x <;> first | cases h | exact absurd rfl (hns _)
          · rename_i e hd
            rcases lenOf_ok hn h1 with ⟨s, rfl, rfl, rfl⟩ | ⟨hns, A, c, rfl⟩
            · cases h
            · have hK : K (.int .i64 (n : Int)) H = some r := by
                cases x <;> first | exact h | exact absurd rfl (hns _)
              refine OpOk.plain (r := Builtin.len_ argTypes ty #[.slice A n c]) ?_ hH hK rfl
              have hat : argTypes = #[t] := by rw [← Array.toArray_toList (xs := argTypes), ht]
              subst hat
              simp [Builtin.len_, run_underlying ((hE t).slice e hd), goInt]
          · cases h
      · cases h
    · cases h
  · -- append
    rename_i s x
    split at h
    · rename_i a b' hat
      split at h
      · rename_i e e2 hd1 hd2
        cases hx with
        | cons h1 hx =>
          cases hx with
          | cons h2 hx =>
            cases hx
            rename_i u v
            obtain ⟨i, z, hi, hsz, hby, hsz2, hz, hzr⟩ := (hE a).elem e (.inl hd1)
            have hzs : z.cells.size = (E.ti e).ty.size := by have := CR_len _ _ _ (hzr F w); simpa using this
            obtain ⟨σ, H', y, w', F', g', k1, k2, k3, k4, k5⟩ := appendK_ok (ty := ty) ((hE a).slice e hd1) ((hE b').slice e2 hd2) hi hsz hby hz hzs ((hE a).u8 e (.inl hd1)) h h1 h2 hH hB
            have hat : argTypes = #[a, b'] := by rw [← Array.toArray_toList (xs := argTypes), hat]
            subst hat
            exact OpOk.mem k2 k1 k3 k4 k5
      · rename_i e hd1 hd2
        split at h
        · rename_i b0 hty
          cases hx with
          | cons h1 hx =>
            cases hx with
            | cons h2 hx =>
              cases hx
              rename_i u v
              obtain ⟨i, z, hi, hsz, hby, hsz2, hz, hzr⟩ := (hE a).elem e (.inl hd1)
              have hzs : z.cells.size = (E.ti e).ty.size := by have := CR_len _ _ _ (hzr F w); simpa using this
              rw [hty] at hsz hzs
              obtain ⟨σ, H', y, w', F', g', k1, k2, k3, k4, k5⟩ := appendStr_ok (t := .int .u8) (ty := ty) (fun _ => (hE a).u8 e (.inl hd1) hty) ((hE a).slice e hd1) ((hE b').str hd2) hi hsz hby hz hzs h h1 h2 hH hB
              have hat : argTypes = #[a, b'] := by rw [← Array.toArray_toList (xs := argTypes), hat]
              subst hat
              exact OpOk.mem k2 k1 k3 k4 k5
        · cases h
      · cases h
    · cases h
  · -- clear
    rename_i x
    split at h
    · rename_i t hat
      split at h
      · rename_i e hd
        cases hx with
        | cons h1 hx =>
          cases hx
          rename_i u
          obtain ⟨σ, H', y, w', k1, k2, k3, k4, k5⟩ := clearK_ok (P := P) (ty := ty) (hE t) hd h h1 hH
          have hat : argTypes = #[t] := by rw [← Array.toArray_toList (xs := argTypes), hat]
          subst hat
          exact OpOk.mem k2 k1 k3 k4 k5
      · cases h
    · cases h
  · -- unsafe.SliceData
    rename_i x
    cases hx with
    | cons h1 hx =>
      cases hx
      obtain ⟨σ, v, k1, k2, k3⟩ := sliceData_ok (P := P) (ts := argTypes) (ty := ty) h h1
      exact OpOk.plain k2 hH k1 k3
  · -- unsafe.String
    rename_i p n
    split at h
    · rename_i pt it hat
      cases hx with
      | cons h1 hx =>
        cases hx with
        | cons h2 hx =>
          cases hx
          have h2 : _ = Value.int .i64 n := h2
          subst h2
          obtain ⟨σ, H', y, w', k1, k2, k3, k4, k5⟩ := ustr_ok (it := it) (ty := ty) hE h h1 hH hB
          have hat : argTypes = #[pt, it] := by rw [← Array.toArray_toList (xs := argTypes), hat]
          subst hat
          exact OpOk.mem k2 k1 k3 k4 k5
    · cases h
  · -- min
    obtain ⟨σ, z, h1, h2, h3⟩ := minMaxK_ok (P := P) h hx
    exact OpOk.plain (r := Builtin.min_ argTypes ty us.toArray) (h3 _ _) hH h1 h2
  · obtain ⟨σ, z, h1, h2, h3⟩ := minMaxK_ok (P := P) h hx
    exact OpOk.plain (r := Builtin.max_ argTypes ty us.toArray) (h3 _ _) hH h1 h2
  · cases h
/-! #### the state -/
structure St (B : Nat → Prop) (F : Fz) (g : List GE) (w : World) (H : Hp) (ts : List AV) (a : Act) : Prop where
  tmps : All2 (VR2 F w g) ts a.tmps.toList
  heap : HR B F w g H
  base : Bs B w
  defers : a.defers = []
def GlobOk (E : Env) (B : Nat → Prop) (F : Fz) (w : World) : Prop :=
  (∀ k p, E.glob k = some p → VR0 F w [] (.rptr p.1 [p.2] 0 0) (.pointer (some ⟨k, 0, none⟩))) ∧
  ∀ k cs, E.tab k = some cs → B k ∧ ∃ el fr, w.heap[k]? = some (.cells cs el fr)
theorem GlobOk.gr {F' : Fz} {g' : List GE} {w' : World} (h : GlobOk E B F w) (k : Gr B F g w F' g' w') : GlobOk E B F' w' :=
  ⟨fun i p hp => VR0_gr (B := B) (g := []) (g' := []) ⟨k.up, k.new, k.cell, fun _ _ h => h, k.below⟩ (h.1 i p hp),
   fun i cs hc => ⟨(h.2 i cs hc).1, by rw [k.below.block i (h.2 i cs hc).1]; exact (h.2 i cs hc).2⟩⟩
theorem GlobOk.mono {B' : Nat → Prop} (h : GlobOk E B F w) (k : ∀ i, B i → B' i) : GlobOk E B' F w := ⟨h.1, fun i cs hc => ⟨k i (h.2 i cs hc).1, (h.2 i cs hc).2⟩⟩
theorem ofConst1_ok (v : Value) : VR0 F w g (ofConst1 v) v := by
  unfold ofConst1
  split <;> first | rfl | exact ⟨_, rfl⟩
theorem ofConst_ok (v : Value) : VR2 F w g (ofConst v) v := by
  unfold ofConst
  split
  · rename_i cs
    refine ⟨cs, rfl, ?_⟩
    generalize cs.toList = l
    induction l with
    | nil => exact .nil
    | cons a l ih => exact .cons (ofConst1_ok a) ih
  · exact VR0_2 (ofConst1_ok v)
theorem opnd_ok {ts : List AV} {a : Act} (hs : St B F g w H ts a) (hg : GlobOk E B F w) (y : Operand) : VR2 F w g (opnd E ts y) (a.eval y) := by
  cases y with
  | tmp t =>
    simp only [opnd, Act.eval]
    cases ht : ts[t]? with
    | none => simp [List.getD, ht]; exact trivial
    | some v =>
      obtain ⟨u, hu, hv⟩ := hs.tmps.get t v ht
      have hu' : a.tmps[t]? = some u := by simpa using hu
      simp only [List.getD, ht, Option.getD_some, Array.getD_eq_getD_getElem?, hu']
      exact hv
  | const v => exact ofConst_ok v
  | func f => exact ⟨#[], rfl, .nil⟩
  | global k =>
    simp only [opnd, Act.eval]
    split
    · rename_i t x hp
      have := hg.1 k _ hp
      obtain ⟨ad, h1, h2⟩ := this
      exact ⟨ad, h1, h2⟩
    · exact trivial
theorem put_ok {ts : List AV} {a : Act} (hs : St B F g w H ts a) {F' : Fz} {g' : List GE} {w' : World} {H' : Hp} {d : Option Tmp} {σ : AV} {v : Value}
    (hgr : Gr B F g w F' g' w') (hH : HR B F' w' g' H') (hv : VR2 F' w' g' σ v) : St B F' g' w' H' (put ts d σ) (a.put d v) := by
  have h0 := hs.tmps.mono fun _ _ => VR2_gr hgr
  refine ⟨?_, hH, hs.base.mono hgr.below.size, ?_⟩
  · cases d with
    | none => exact h0
    | some d =>
      simp only [put, Act.put, Array.toList_setIfInBounds]
      exact h0.set hv d
  · cases d <;> exact hs.defers
end
end Go.Proofs.YtmojilihllhadaaGreatDoor.Ev
/- What comes back of a call. -/
namespace Go.Proofs.YtmojilihllhadaaGreatDoor.Ev
open Go Go.RowKit
set_option linter.unusedVariables false
set_option linter.unusedSimpArgs false
section
variable {P : Program} {E : Env} {B : Nat → Prop} {F : Fz} {g : List GE} {w : World} {H : Hp}
theorem CR_noSl {F F' : Fz} {w w' : World} : (t : Ty) → (x : t.den) → (vs : List Value) → t.hasSl = false → CR F w t x vs → CR F' w' t x vs
  | .int _, _, _, _, h => by simpa only [CR] using h
  | .bool, _, _, _, h => by simpa only [CR] using h
  | .str, _, _, _, h => by simpa only [CR] using h
  | .unit, _, _, _, h => by simpa only [CR] using h
  | .sl _, _, _, hs, _ => by cases hs
  | .st t, x, vs, hs, h => by simp only [CR] at h ⊢; exact CR_noSl t x vs hs h
  | .pair a b, x, _, hs, h => by
    simp only [Ty.hasSl, Bool.or_eq_false_iff] at hs
    simp only [CR] at h ⊢
    obtain ⟨v1, v2, rfl, h1, h2⟩ := h
    exact ⟨v1, v2, rfl, CR_noSl a _ _ hs.1 h1, CR_noSl b _ _ hs.2 h2⟩
def Up (F F' : Fz) (w w' : World) (g g' : List GE) (x y : AV) : Prop := ∀ v, VR0 F w g x v → VR0 F' w' g' y v
theorem All2.up {F F' : Fz} {w w' : World} {g g' : List GE} {xs ys : List AV} (h : All2 (Up F F' w w' g g') xs ys) : ∀ {vs : List Value}, All2 (VR0 F w g) xs vs → All2 (VR0 F' w' g') ys vs := by
  induction h with
  | nil => intro vs h; cases h; exact .nil
  | cons h _ ih =>
    intro vs hv
    cases hv with
    | cons h1 h2 => exact .cons (h _ h1) (ih h2)
theorem explode_up {F F' : Fz} {w w' : World} {g g' : List GE} : (t : Ty) → (x : t.den) → (t.hasSl = false ∨ ∀ (t : Ty) (l : List t.den), Up F F' w w' g g' (.sl t l) (.sl t l)) → All2 (Up F F' w w' g g') (explode t x) (explode t x)
  | .int _, _, _ => .cons (fun _ h => h) .nil
  | .bool, _, _ => .cons (fun _ h => h) .nil
  | .str, _, _ => .cons (fun _ h => h) .nil
  | .unit, _, _ => .nil
  | .sl t, l, h => .cons (h.elim (fun h => by cases h) fun h => h t l) .nil
  | .st t, x, h => explode_up t x h
  | .pair a b, x, h => by
    have ha : a.hasSl = false ∨ ∀ (t : Ty) (l : List t.den), Up F F' w w' g g' (.sl t l) (.sl t l) := h.imp (fun h => by simp only [Ty.hasSl, Bool.or_eq_false_iff] at h; exact h.1) id
    have hb : b.hasSl = false ∨ ∀ (t : Ty) (l : List t.den), Up F F' w w' g g' (.sl t l) (.sl t l) := h.imp (fun h => by simp only [Ty.hasSl, Bool.or_eq_false_iff] at h; exact h.2) id
    exact (explode_up a x.1 ha).append (explode_up b x.2 hb)
theorem ownCells_blk : (t : Ty) → (x : t.den) → (b b' : Nat) → (ownCells t x b).2 = (ownCells t x b').2
  | .int _, _, _, _ => rfl
  | .bool, _, _, _ => rfl
  | .str, _, _, _ => rfl
  | .unit, _, _, _ => rfl
  | .sl _, _, _, _ => rfl
  | .st t, x, b, b' => ownCells_blk t x b b'
  | .pair s t, x, b, b' => by
    simp only [ownCells]
    rw [ownCells_blk s x.1 b b', ownCells_blk t x.2 _ (b' + (ownCells s x.1 b').2.length)]
theorem all_up {F F' : Fz} {w w' : World} {g g' : List GE} (id sz n : Nat) : Up F F' w w' g' (g ++ g') (.all id sz n) (.all (g.length + id) sz n) := by
  rintro v ⟨e, A, h1, h2⟩
  exact ⟨e, A, by rw [List.getElem?_append_right (by omega)]; simpa using h1, h2⟩
theorem ownCells_up {F F' : Fz} {w w' : World} {g g' : List GE} : (t : Ty) → (x : t.den) → (b : Nat) → All2 (Up F F' w w' g' (g ++ g')) (ownCells t x b).1 (ownCells t x (g.length + b)).1
  | .int _, _, _ => .cons (fun _ h => h) .nil
  | .bool, _, _ => .cons (fun _ h => h) .nil
  | .str, _, _ => .cons (fun _ h => h) .nil
  | .unit, _, _ => .nil
  | .sl t, l, b => .cons (all_up b t.size l.length) .nil
  | .st t, x, b => ownCells_up t x b
  | .pair s t, x, b => by
    simp only [ownCells]
    rw [ownCells_blk s x.1 (g.length + b) b, Nat.add_assoc]
    exact (ownCells_up s x.1 b).append (ownCells_up t x.2 _)
def Up1 (F F' : Fz) (w w' : World) (g g' : List GE) (x y : AV) : Prop := ∀ v, VR1 F w g x v → VR1 F' w' g' y v
theorem toAV_up {F F' : Fz} {w w' : World} {g g' : List GE} (t : Ty) (x : t.den) (h : t.hasSl = false ∨ ∀ (t : Ty) (l : List t.den), Up F F' w w' g g' (.sl t l) (.sl t l)) : Up1 F F' w w' g g' (toAV t x) (toAV t x) := by
  cases t with
  | st t =>
    rintro v ⟨vs, rfl, hv⟩
    exact ⟨vs, rfl, (explode_up t x h).up hv⟩
  | sl t => exact (h.elim (fun h => by cases h) fun h => h t x : Up F F' w w' g g' (.sl t x) (.sl t x))
  | _ => exact fun _ h => h
theorem ownVal_up {F F' : Fz} {w w' : World} {g g' : List GE} (t : Ty) (x : t.den) (b : Nat) : Up1 F F' w w' g' (g ++ g') (ownVal t x b).1 (ownVal t x (g.length + b)).1 := by
  cases t with
  | st t =>
    rintro v ⟨vs, rfl, hv⟩
    exact ⟨vs, rfl, (ownCells_up t x b).up hv⟩
  | sl t => exact (all_up b t.size x.length : Up F F' w w' g' (g ++ g') _ _)
  | _ => exact fun _ h => h
theorem ownVal_blk (t : Ty) (x : t.den) (b b' : Nat) : (ownVal t x b).2 = (ownVal t x b').2 := by
  cases t with
  | st t => exact ownCells_blk t x b b'
  | _ => rfl
theorem toAV_tup (t : Ty) (x : t.den) (cs : List AV) : toAV t x ≠ .tup cs := by
  cases t <;> (intro h; cases h)
theorem ownVal_tup (t : Ty) (x : t.den) (b : Nat) (cs : List AV) : (ownVal t x b).1 ≠ .tup cs := by
  cases t <;> (intro h; cases h)
theorem retVals_blk (own : Bool) : (ts : List Ty) → (x : (retTy ts).den) → (b b' : Nat) → (retVals own ts x b).2 = (retVals own ts x b').2
  | [], _, _, _ => by cases own <;> rfl
  | [t], x, b, b' => by
    cases own with
    | false => rfl
    | true => exact ownVal_blk t x b b'
  | t :: u :: ts, x, b, b' => by
    cases own with
    | false => rfl
    | true =>
      simp only [retVals]
      rw [ownVal_blk t x.1 b b', retVals_blk true (u :: ts) x.2 _ (b' + (ownVal t x.1 b').2.length)]
theorem All2.up1 {F F' : Fz} {w w' : World} {g g' : List GE} {xs ys : List AV} (h : All2 (Up1 F F' w w' g g') xs ys) : ∀ {vs : List Value}, All2 (VR1 F w g) xs vs → All2 (VR1 F' w' g') ys vs := by
  induction h with
  | nil => intro vs h; cases h; exact .nil
  | cons h _ ih =>
    intro vs hv
    cases hv with
    | cons h1 h2 => exact .cons (h _ h1) (ih h2)
theorem retVals_up (own : Bool) {F F' : Fz} {w w' : World} {g g' : List GE} : (ts : List Ty) → (x : (retTy ts).den) → (b : Nat) →
    (own = true ∨ ts.any Ty.hasSl = false ∨ ∀ (t : Ty) (l : List t.den), Up F F' w w' g' (g ++ g') (.sl t l) (.sl t l)) →
    All2 (Up1 F F' w w' g' (g ++ g')) (retVals own ts x b).1 (retVals own ts x (g.length + b)).1
  | [], _, _, _ => by cases own <;> exact .nil
  | [t], x, b, h => by
    cases own with
    | false => exact .cons (toAV_up t x (h.elim (fun h => by cases h) fun h => h.imp (fun h => by simpa using h) id)) .nil
    | true => exact .cons (ownVal_up t x b) .nil
  | t :: u :: ts, x, b, h => by
    cases own with
    | false =>
      have h' := h.elim (fun h => by cases h) id
      refine .cons (toAV_up t x.1 (h'.imp (fun h => by simp only [List.any_cons, Bool.or_eq_false_iff] at h; exact h.1) id)) ?_
      exact retVals_up false (u :: ts) x.2 b (.inr (h'.imp (fun h => by rw [List.any_cons, Bool.or_eq_false_iff] at h; exact h.2) id))
    | true =>
      simp only [retVals]
      rw [ownVal_blk t x.1 (g.length + b) b, Nat.add_assoc]
      exact .cons (ownVal_up t x.1 b) (retVals_up true (u :: ts) x.2 _ (.inl rfl))
theorem retVals_tup (own : Bool) : (ts : List Ty) → (x : (retTy ts).den) → (b : Nat) → ∀ v ∈ (retVals own ts x b).1, ∀ cs, v ≠ .tup cs
  | [], _, _ => by cases own <;> (intro v hv; cases hv)
  | [t], x, b => by
    cases own <;> (intro v hv cs; simp only [retVals, List.mem_singleton] at hv; subst hv)
    · exact toAV_tup t x cs
    · exact ownVal_tup t x b cs
  | t :: u :: ts, x, b => by
    cases own <;> (intro v hv cs; simp only [retVals, List.mem_cons] at hv; rcases hv with rfl | hv)
    · exact toAV_tup t _ cs
    · exact retVals_tup false (u :: ts) x.2 b v hv cs
    · exact ownVal_tup t _ b cs
    · exact retVals_tup true (u :: ts) x.2 _ v hv cs
theorem one_up {F F' : Fz} {w w' : World} {g g' : List GE} {xs ys : List AV} (h : All2 (Up1 F F' w w' g g') xs ys) (hx : ∀ v ∈ xs, ∀ cs, v ≠ .tup cs) {v : Value} (hv : VR2 F w g (one xs) v) : VR2 F' w' g' (one ys) v := by
  cases h with
  | nil => obtain ⟨vs, h1, h2⟩ := hv; cases vs with | mk l => cases l with
    | nil => exact ⟨_, h1, .nil⟩
    | cons a b => cases h2
  | cons h t =>
    cases t with
    | nil => exact VR1_2 (h v (VR2_1 hv (hx _ (by simp))))
    | cons h' t' =>
      obtain ⟨vs, h1, h2⟩ := hv
      exact ⟨vs, h1, (All2.cons h (All2.cons h' t')).up1 h2⟩
end
end Go.Proofs.YtmojilihllhadaaGreatDoor.Ev
/- The state behind a call. -/
namespace Go.Proofs.YtmojilihllhadaaGreatDoor.Ev
open Go Go.RowKit
set_option linter.unusedVariables false
set_option linter.unusedSimpArgs false
section
variable {P : Program} {E : Env} {B : Nat → Prop} {F : Fz} {g : List GE} {w : World} {H : Hp}
def RetOk0 (own : Bool) (ts : List Ty) (F : Fz) (w w' : World) (x : (retTy ts).den) (v : Value) : Prop :=
  ∃ F' g', Gr (Old w) F [] w F' g' w' ∧ HR (Old w) F' w' g' (retVals own ts x 0).2 ∧ VR2 F' w' g' (one (retVals own ts x 0).1) v
def gb (back : List Bk) (g : List GE) : List GE := g.take back.length
def RetOk (B : Nat → Prop) (own : Bool) (ts : List Ty) (back : List Bk) (F : Fz) (g : List GE) (w w' : World) (x : RetT ts back) (v : Value) : Prop :=
  ∃ F' g', Gr B F [] w F' [] w' ∧ HR B F' w' (gb back g ++ g') ((backBlks back (rSnd ts back x) back.length).1 ++ ((backBlks back (rSnd ts back x) back.length).2 ++ (retVals own ts (rFst ts back x) (back.length + (backBlks back (rSnd ts back x) back.length).2.length)).2)) ∧
    VR2 F' w' (gb back g ++ g') (one (retVals own ts (rFst ts back x) (back.length + (backBlks back (rSnd ts back x) back.length).2.length)).1) v
theorem RetOk.zero {own : Bool} {ts : List Ty} {back : List Bk} {F : Fz} {w w' : World} {x : RetT ts back} {v : Value} (h : RetOk (Old w) own ts back F [] w w' x v) (hb : back.isEmpty = true) : RetOk0 own ts F w w' (rFst ts back x) v := by
  cases back with
  | cons a b => cases hb
  | nil =>
    obtain ⟨F', g', h1, h2, h3⟩ := h
    exact ⟨F', g', ⟨h1.up, h1.new, h1.cell, fun i e h => by simp at h, h1.below⟩, h2, h3⟩
theorem get_app {β : Type} {l m : List β} {i : Nat} {x : β} (h : (l ++ m)[i]? = some x) : l[i]? = some x ∨ (l.length ≤ i ∧ m[i - l.length]? = some x) := by
  rcases Nat.lt_or_ge i l.length with h' | h'
  · rw [List.getElem?_append_left h'] at h; exact .inl h
  · rw [List.getElem?_append_right h'] at h; exact .inr ⟨h', h⟩
def Arrs (Hc : Hp) : Prop := ∀ b ∈ Hc, ∃ t l s, b = .arr t l s
theorem HR_join {F' : Fz} {g' : List GE} {w' : World} {Hc : Hp} (hH : HR B F w g H) (hB : Bs B w) (hg : Gr (Old w) F [] w F' g' w') (hc : HR (Old w) F' w' g' Hc) (ha : Arrs Hc) :
    Gr B F g w F' (g ++ g') w' ∧ HR B F' w' (g ++ g') (H ++ Hc) := by
  have hlen := hH.len
  have hlen' := hc.len
  have hG : Gr B F g w F' (g ++ g') w' := ⟨hg.up, fun b o h => (hg.new b o h).imp id (fun h hb => h (hB b hb)), hg.cell, fun i e h => by rw [List.getElem?_append_left (idx_lt h)]; exact h, hg.below.mono hB⟩
  have hG2 : Gr B F' g' w' F' g' w' := Gr.refl ..
  have hpair : ∀ (i : Nat) (b : Blk) (e : GE), (H ++ Hc)[i]? = some b → (g ++ g')[i]? = some e → (H[i]? = some b ∧ g[i]? = some e) ∨ (H.length ≤ i ∧ Hc[i - H.length]? = some b ∧ g'[i - H.length]? = some e) := by
    intro i b e hb he
    rcases get_app hb with h1 | ⟨h1, h2⟩ <;> rcases get_app he with h3 | ⟨h3, h4⟩
    · exact .inl ⟨h1, h3⟩
    · have := idx_lt h1; omega
    · have := idx_lt h3; omega
    · exact .inr ⟨h1, h2, by rw [← hlen]; exact h4⟩
  have hvr : ∀ {x : AV} {v : Value}, VR0 F' w' g' x v → True := fun _ => trivial
  refine ⟨hG, by simp [hlen, hlen'], fun i b e hb he => ?_, fun i b e hb he hr => ?_, fun i j b c e f hb hcc he hf hr hs hij => ?_, fun k o hk => ?_⟩
  · rcases hpair i b e hb he with ⟨h1, h2⟩ | ⟨_, h1, h2⟩
    · exact BR_gr hG (fun hr => hg.below.block _ (hH.own i b e h1 h2 hr).2) (hH.blk i b e h1 h2)
    · obtain ⟨t, l, s, rfl⟩ := ha b (List.mem_of_getElem? h1)
      exact hc.blk _ _ e h1 h2
  · rcases hpair i b e hb he with ⟨h1, h2⟩ | ⟨_, h1, h2⟩
    · have := hH.own i b e h1 h2 hr
      exact ⟨this.1, Nat.lt_of_lt_of_le this.2 hg.below.size⟩
    · have := hc.own _ b e h1 h2 hr
      exact ⟨fun hb => this.1 (hB _ hb), this.2⟩
  · rcases hpair i b e hb he with ⟨h1, h2⟩ | ⟨hi, h1, h2⟩ <;> rcases hpair j c f hcc hf with ⟨h3, h4⟩ | ⟨hj, h3, h4⟩
    · exact hH.sep i j b c e f h1 h3 h2 h4 hr hs hij
    · have := (hH.own i b e h1 h2 hr).2
      have : ¬ (f.ad.block < w.heap.size) := (hc.own _ c f h3 h4 hs).1
      omega
    · have := (hH.own j c f h3 h4 hs).2
      have : ¬ (e.ad.block < w.heap.size) := (hc.own _ b e h1 h2 hr).1
      omega
    · exact hc.sep _ _ b c e f h1 h3 h2 h4 hr hs (by omega)
  · obtain ⟨k1, k2⟩ := hc.frz k o hk
    refine ⟨k1, fun i b e hb he hr hbk => ?_⟩
    rcases hpair i b e hb he with ⟨h1, h2⟩ | ⟨_, h1, h2⟩
    · have := (hH.own i b e h1 h2 hr).2
      rcases hg.new k o hk with h | h
      · exact (hH.frz k o h).2 i b e h1 h2 hr hbk
      · have h : ¬ (k < w.heap.size) := h
        omega
    · exact k2 _ b e h1 h2 hr hbk
def Plain (Hc : Hp) : Prop := ∀ b ∈ Hc, ∃ t l s, b = .arr t l s ∧ t.hasSl = false
theorem ownCells_plain : (t : Ty) → (x : t.den) → (b : Nat) → t.deepSl = false → Plain (ownCells t x b).2
  | .int _, _, _, _ => by intro b h; cases h
  | .bool, _, _, _ => by intro b h; cases h
  | .str, _, _, _ => by intro b h; cases h
  | .unit, _, _, _ => by intro b h; cases h
  | .sl t, l, _, h => by intro b hb; simp only [ownCells, List.mem_singleton] at hb; subst hb; exact ⟨t, l, false, rfl, h⟩
  | .st t, x, b, h => ownCells_plain t x b h
  | .pair s t, x, b, h => by
    simp only [Ty.deepSl, Bool.or_eq_false_iff] at h
    intro c hc
    simp only [ownCells] at hc
    rcases List.mem_append.1 hc with hc | hc
    · exact ownCells_plain s _ _ h.1 c hc
    · exact ownCells_plain t _ _ h.2 c hc
theorem ownVal_plain (t : Ty) (x : t.den) (b : Nat) (h : t.deepSl = false) : Plain (ownVal t x b).2 := by
  cases t with
  | st t => exact ownCells_plain t x b h
  | sl t => exact ownCells_plain (.sl t) x b h
  | _ => intro b h; cases h
theorem retVals_plain (own : Bool) : (ts : List Ty) → (x : (retTy ts).den) → (b : Nat) → shares own ts = false → Plain (retVals own ts x b).2
  | [], _, _, _ => by cases own <;> (intro b h; cases h)
  | [t], x, b, h => by
    cases own with
    | false => intro b h; cases h
    | true => exact ownVal_plain t x b (by simpa [shares] using h)
  | t :: u :: ts, x, b, h => by
    cases own with
    | false => intro b h; cases h
    | true =>
      simp only [shares, List.any_cons, Bool.or_eq_false_iff] at h
      intro c hc
      simp only [retVals] at hc
      rcases List.mem_append.1 hc with hc | hc
      · exact ownVal_plain t _ _ h.1 c hc
      · exact retVals_plain true (u :: ts) x.2 _ (by simp only [shares, List.any_cons, Bool.or_eq_false_iff]; exact h.2) c hc
theorem HR_drop {F' F0 : Fz} {g' : List GE} {w' : World} {Hc : Hp} (hc : HR (Old w) F' w' g' Hc) (hp : Plain Hc) (hs : w.heap.size ≤ w'.heap.size) (hF : ∀ k o, F0 k o → k < w.heap.size) : HR (Old w) F0 w' g' Hc := by
  refine ⟨hc.len, fun i b e hb he => ?_, hc.own, hc.sep, fun k o hk => ⟨by have := hF k o hk; omega, fun i b e hb he hr hbk => ?_⟩⟩
  · obtain ⟨t, l, s, rfl, hsl⟩ := hp b (List.mem_of_getElem? hb)
    obtain ⟨h1, h2, h3, h4, h5⟩ := hc.blk i _ e hb he
    refine ⟨h1, h2, h3, h4, fun hcap => ?_⟩
    obtain ⟨vs, el, h7, ku, h8, h9⟩ := h5 hcap
    exact ⟨vs, el, h7, ku, h8, fun i x hx => let ⟨us, ha, hb⟩ := h9 i x hx; ⟨us, CR_noSl t x us hsl ha, hb⟩⟩
  · have h1 : ¬ (e.ad.block < w.heap.size) := (hc.own i b e hb he hr).1
    have h2 := hF k o hk
    omega
theorem ownCells_arrs : (t : Ty) → (x : t.den) → (b : Nat) → Arrs (ownCells t x b).2
  | .int _, _, _ => by intro b h; cases h
  | .bool, _, _ => by intro b h; cases h
  | .str, _, _ => by intro b h; cases h
  | .unit, _, _ => by intro b h; cases h
  | .sl t, l, _ => by intro b hb; simp only [ownCells, List.mem_singleton] at hb; subst hb; exact ⟨t, l, false, rfl⟩
  | .st t, x, b => ownCells_arrs t x b
  | .pair s t, x, b => by
    intro c hc
    simp only [ownCells] at hc
    rcases List.mem_append.1 hc with hc | hc
    · exact ownCells_arrs s _ _ c hc
    · exact ownCells_arrs t _ _ c hc
theorem ownVal_arrs (t : Ty) (x : t.den) (b : Nat) : Arrs (ownVal t x b).2 := by
  cases t with
  | st t => exact ownCells_arrs t x b
  | sl t => exact ownCells_arrs (.sl t) x b
  | _ => intro b h; cases h
theorem retVals_arrs (own : Bool) : (ts : List Ty) → (x : (retTy ts).den) → (b : Nat) → Arrs (retVals own ts x b).2
  | [], _, _ => by cases own <;> (intro b h; cases h)
  | [t], x, b => by
    cases own with
    | false => intro b h; cases h
    | true => exact ownVal_arrs t x b
  | t :: u :: ts, x, b => by
    cases own with
    | false => intro b h; cases h
    | true =>
      intro c hc
      simp only [retVals] at hc
      rcases List.mem_append.1 hc with hc | hc
      · exact ownVal_arrs t _ _ c hc
      · exact retVals_arrs true (u :: ts) x.2 _ c hc
theorem call_back (hH : HR B F w g H) (hB : Bs B w) {own : Bool} {ts : List Ty} {x : (retTy ts).den} {v : Value} {w' : World} {args : List AV}
    (hr : RetOk0 own ts (lendF F g H (args.flatMap fun v => ownIds (cellsOf v))) w w' x v) :
    ∃ F' g', Gr B F g w F' g' w' ∧ HR B F' w' g' (afterCall own ts args H ++ (retVals own ts x H.length).2) ∧ VR2 F' w' g' (one (retVals own ts x H.length).1) v := by
  obtain ⟨F1, g1, hg, hc, hv⟩ := hr
  have hlen := hH.len
  cases hs : shares own ts with
  | true =>
    obtain ⟨h1, h2⟩ := HR_join (lend_HR hH (args.flatMap fun v => ownIds (cellsOf v))) hB hg hc (retVals_arrs own ts x 0)
    refine ⟨F1, g ++ g1, (lend_gr hH _).trans h1, ?_, ?_⟩
    · simp only [afterCall, hs]
      rw [retVals_blk own ts x H.length 0]
      exact h2
    · rw [← hlen]
      have hup := retVals_up own (F := F1) (F' := F1) (w := w') (w' := w') (g := g) (g' := g1) ts x 0 (.inr (.inr fun t l v hv => hv))
      exact one_up hup (retVals_tup own ts x 0) hv
  | false =>
    have hF : ∀ k o, F k o → k < w.heap.size := fun k o h => (hH.frz k o h).1
    have hg0 : Gr (Old w) F [] w F g1 w' := ⟨fun _ _ h => h, fun _ _ h => .inl h, fun b o u h1 h2 => hg.cell b o u (.inl h1) h2, hg.ext, hg.below⟩
    have hc0 := HR_drop hc (retVals_plain own ts x 0 hs) hg.below.size hF
    obtain ⟨h1, h2⟩ := HR_join hH hB hg0 hc0 (retVals_arrs own ts x 0)
    refine ⟨F, g ++ g1, h1, ?_, ?_⟩
    · simp only [afterCall, hs]
      rw [retVals_blk own ts x H.length 0]
      exact h2
    · rw [← hlen]
      have hup := retVals_up own (F := F1) (F' := F) (w := w') (w' := w') (g := g) (g' := g1) ts x 0 (by
        cases own with
        | true => exact .inl rfl
        | false => exact .inr (.inl (by simpa [shares] using hs)))
      exact one_up hup (retVals_tup own ts x 0) hv
end
end Go.Proofs.YtmojilihllhadaaGreatDoor.Ev
/- Own blocks numbered anew. -/
namespace Go.Proofs.YtmojilihllhadaaGreatDoor.Ev
open Go Go.RowKit
set_option linter.unusedVariables false
set_option linter.unusedSimpArgs false
section
variable {P : Program} {E : Env} {B : Nat → Prop} {F : Fz} {g : List GE} {w : World} {H : Hp}
def reG (g : List GE) (π : List Nat) : List GE := π.map fun i => g.getD i ⟨⟨0, 0, none⟩, 0, 0, 0⟩
theorem sigma_some {π : List Nat} {i j : Nat} (h : sigma π i = some j) : π[j]? = some i := by
  unfold sigma at h
  have := List.idxOf?_eq_some_iff.1 h
  obtain ⟨hj, he, _⟩ := this
  rw [List.getElem?_eq_getElem hj]
  simpa using he
theorem reG_get {π : List Nat} {i j : Nat} {e : GE} (h : sigma π i = some j) (he : g[i]? = some e) : (reG g π)[j]? = some e := by
  simp [reG, sigma_some h, List.getD, he]
theorem ren0_ok {π : List Nat} {x : AV} {v : Value} (h : VR0 F w g x v) : VR0 F w (reG g π) (ren0 (sigma π) x) v := by
  cases x with
  | all id sz n =>
    simp only [ren0]
    split
    · rename_i j hj; obtain ⟨e, A, he, hr⟩ := h; exact ⟨e, A, reG_get hj he, hr⟩
    · trivial
  | own id sz off n =>
    simp only [ren0]
    split
    · rename_i j hj; obtain ⟨e, A, he, hr⟩ := h; exact ⟨e, A, reG_get hj he, hr⟩
    · trivial
  | ptr id i =>
    simp only [ren0]
    split
    · rename_i j hj; obtain ⟨e, he, hr⟩ := h; exact ⟨e, reG_get hj he, hr⟩
    · trivial
  | eptr id i k =>
    simp only [ren0]
    split
    · rename_i j hj; obtain ⟨e, he, hr⟩ := h; exact ⟨e, reG_get hj he, hr⟩
    · trivial
  | aptr id sz n =>
    simp only [ren0]
    split
    · rename_i j hj; obtain ⟨e, he, hr⟩ := h; exact ⟨e, reG_get hj he, hr⟩
    · trivial
  | slf id =>
    simp only [ren0]
    split
    · rename_i j hj; obtain ⟨e, he, hr⟩ := h; exact ⟨e, reG_get hj he, hr⟩
    · trivial
  | mp id =>
    simp only [ren0]
    split
    · rename_i j hj; obtain ⟨e, he, hr⟩ := h; exact ⟨e, reG_get hj he, hr⟩
    · trivial
  | agg cs => trivial
  | tup cs => trivial
  | fn f cs => trivial
  | _ => exact h
theorem ren0_tup (σ : Nat → Option Nat) (x : AV) (cs : List AV) : ren0 σ x ≠ .tup cs := by
  cases x <;> simp only [ren0] <;> first | (intro h; cases h; done) | (split <;> (intro h; cases h))
theorem ren1_ok {π : List Nat} {x : AV} {v : Value} (h : VR1 F w g x v) : VR1 F w (reG g π) (ren1 (sigma π) x) v := by
  cases x with
  | agg cs => obtain ⟨vs, rfl, hc⟩ := h; exact ⟨vs, rfl, by simpa using hc.map (ren0 (sigma π)) id fun _ _ => ren0_ok⟩
  | fn f cs => obtain ⟨vs, rfl, hc⟩ := h; exact ⟨vs, rfl, by simpa using hc.map (ren0 (sigma π)) id fun _ _ => ren0_ok⟩
  | tup cs => trivial
  | _ =>
    simp only [VR1] at h
    have h0 := ren0_ok (π := π) h
    have h1 := VR2_1 (VR0_2 h0) (ren0_tup _ _)
    simp only [ren1]
    exact h1
theorem ren2_ok {π : List Nat} {x : AV} {v : Value} (h : VR2 F w g x v) : VR2 F w (reG g π) (ren2 (sigma π) x) v := by
  cases x with
  | tup cs => obtain ⟨vs, rfl, hc⟩ := h; exact ⟨vs, rfl, by simpa using hc.map (ren1 (sigma π)) id fun _ _ => ren1_ok⟩
  | _ => simp only [VR2] at h; exact VR1_2 (ren1_ok (π := π) h)
theorem cutTs_ok {π : List Nat} {live : List Nat} {ts : List AV} {us : List Value} (h : All2 (VR2 F w g) ts us) : ∀ i, All2 (VR2 F w (reG g π)) (cutTs live π i ts) us := by
  induction h with
  | nil => intro i; exact .nil
  | cons h t ih =>
    intro i
    refine .cons ?_ (ih (i + 1))
    split
    · exact ren2_ok h
    · trivial
theorem addNew_nodup : ∀ (l acc : List Nat), acc.Nodup → (addNew acc l).Nodup
  | [], _, h => h
  | i :: l, acc, h => by
    simp only [addNew]
    split
    · exact addNew_nodup l acc h
    · rename_i hc
      refine addNew_nodup l _ (List.nodup_append.2 ⟨h, by simp, ?_⟩)
      intro a ha b hb
      simp at hb
      subst hb
      rintro rfl
      have : acc.contains a = true := by simpa using ha
      rw [this] at hc; cases hc
theorem closure_nodup (H : Hp) : ∀ (n : Nat) (acc : List Nat), acc.Nodup → (closure H n acc).Nodup
  | 0, _, h => h
  | n + 1, acc, h => closure_nodup H n _ (addNew_nodup _ _ h)
theorem cutPi_nodup (H : Hp) (m : Nat) (vs : List Nat) : (cutPi H m vs).Nodup := closure_nodup H 3 _ (addNew_nodup _ _ List.nodup_range)
theorem addNew_pre : ∀ (l acc : List Nat), ∃ r, addNew acc l = acc ++ r
  | [], acc => ⟨[], by simp [addNew]⟩
  | i :: l, acc => by
    simp only [addNew]
    split
    · exact addNew_pre l acc
    · obtain ⟨r, hr⟩ := addNew_pre l (acc ++ [i])
      exact ⟨i :: r, by rw [hr]; simp⟩
theorem closure_pre (H : Hp) : ∀ (n : Nat) (acc : List Nat), ∃ r, closure H n acc = acc ++ r
  | 0, acc => ⟨[], by simp [closure]⟩
  | n + 1, acc => by
    have : ∀ l, ∃ r, closure H n (addNew acc l) = acc ++ r := fun l => by
      obtain ⟨r', hr'⟩ := addNew_pre l acc
      obtain ⟨r, hr⟩ := closure_pre H n (addNew acc l)
      exact ⟨r' ++ r, by rw [hr, hr', List.append_assoc]⟩
    exact this _
theorem reG_first (H : Hp) (m : Nat) (vs : List Nat) (hm : m ≤ g.length) : ∀ i, i < m → (reG g (cutPi H m vs))[i]? = g[i]? := by
  intro i hi
  obtain ⟨r', hr'⟩ := addNew_pre vs (List.range m)
  obtain ⟨r, hr⟩ := closure_pre H 3 (addNew (List.range m) vs)
  have hc : (cutPi H m vs)[i]? = some i := by
    unfold cutPi
    rw [hr, hr', List.append_assoc, List.getElem?_append_left (by simpa using hi)]
    simp [hi]
  have hg : g[i]? = some (g[i]'(by omega)) := List.getElem?_eq_getElem (by omega)
  simp [reG, hc, List.getD, hg]
theorem renB_real {σ : Nat → Option Nat} {b : Blk} {e : GE} : Real (renB σ b) e ↔ Real b e := by cases b <;> exact Iff.rfl
theorem pickH_ok (hH : HR B F w g H) {π : List Nat} (hn : π.Nodup) : HR B F w (reG g π) (pickH H π) := by
  have hlen := hH.len
  have hget : ∀ (j : Nat) (b : Blk) (e : GE), (pickH H π)[j]? = some b → (reG g π)[j]? = some e → b = .dead ∨ ∃ i c, π[j]? = some i ∧ H[i]? = some c ∧ g[i]? = some e ∧ b = renB (sigma π) c := by
    intro j b e hb he
    simp only [pickH, List.getElem?_map, Option.map_eq_some_iff] at hb
    obtain ⟨i, hi, rfl⟩ := hb
    simp only [reG, List.getElem?_map, hi, Option.map_some, Option.some.injEq] at he
    cases hc : H[i]? with
    | none => left; simp [List.getD, hc, renB]
    | some c =>
      have hlt := idx_lt hc
      have hg : g[i]? = some (g[i]'(by omega)) := List.getElem?_eq_getElem (by omega)
      refine .inr ⟨i, c, hi, hc, ?_, by simp [List.getD, hc]⟩
      rw [← he]; simp [List.getD, hg]
  have hinj : ∀ (j k i : Nat), π[j]? = some i → π[k]? = some i → j = k := by
    intro j k i h1 h2
    exact (List.getElem?_inj (idx_lt h1) hn).1 (h1.trans h2.symm)
  refine ⟨by simp [reG, pickH], fun j b e hb he => ?_, fun j b e hb he hr => ?_, fun j k b c e f hb hc he hf hr hs hjk => ?_, fun k o hk => ?_⟩
  · rcases hget j b e hb he with rfl | ⟨i, c, h1, h2, h3, rfl⟩
    · trivial
    · have := hH.blk i c e h2 h3
      cases c with
      | var T cs =>
        obtain ⟨k1, k2, vs, k3, k4⟩ := this
        refine ⟨k1, k2, vs, k3, ?_⟩
        have := k4.map (ren1 (sigma π)) id (T := VR0 F w (reG g π)) fun a b hab => by
          cases a with
          | agg => exact hab.elim
          | tup => exact hab.elim
          | fn f cs => obtain ⟨rfl, rfl⟩ := hab; exact ⟨rfl, rfl⟩
          | _ => exact ren0_ok (π := π) hab
        simpa using this
      | arr t l s => exact this
      | mp m => exact this
      | dead => trivial
  · rcases hget j b e hb he with rfl | ⟨i, c, h1, h2, h3, rfl⟩
    · exact hr.elim
    · exact hH.own i c e h2 h3 (renB_real.1 hr)
  · rcases hget j b e hb he with rfl | ⟨i, c', h1, h2, h3, rfl⟩
    · exact hr.elim
    · rcases hget k c f hc hf with rfl | ⟨i', d, h4, h5, h6, rfl⟩
      · exact hs.elim
      · refine hH.sep i i' c' d e f h2 h5 h3 h6 (renB_real.1 hr) (renB_real.1 hs) ?_
        rintro rfl
        exact hjk (hinj j k i h1 h4)
  · obtain ⟨h1, h2⟩ := hH.frz k o hk
    refine ⟨h1, fun j b e hb he hr hbk => ?_⟩
    rcases hget j b e hb he with rfl | ⟨i, c, h3, h4, h5, rfl⟩
    · exact hr.elim
    · obtain ⟨t, l, rfl, hlt⟩ := h2 i c e h4 h5 (renB_real.1 hr) hbk
      exact ⟨t, l, rfl, hlt⟩
theorem renumber_ok {ts : List AV} {a : Act} (hs : St B F g w H ts a) (m : Nat) (live : List Nat) (vs : List Nat) :
    St B F (reG g (cutPi H m vs)) w (pickH H (cutPi H m vs)) (cutTs live (cutPi H m vs) 0 ts) a :=
  ⟨cutTs_ok hs.tmps 0, pickH_ok hs.heap (cutPi_nodup H m vs), hs.base, hs.defers⟩
end
end Go.Proofs.YtmojilihllhadaaGreatDoor.Ev
/- What is done to slots at a cut. -/
namespace Go.Proofs.YtmojilihllhadaaGreatDoor.Ev
open Go Go.RowKit
set_option linter.unusedVariables false
set_option linter.unusedSimpArgs false
section
variable {P : Program} {E : Env} {B : Nat → Prop} {F : Fz} {g : List GE} {w : World} {H : Hp}
theorem mkWhole_ok {t : Ty} {v v' : AV} {u : Value} {H' : Hp} (h : mkWhole t H v = some (v', H')) (hv : VR0 F w g v u) (hH : HR B F w g H) (hB : Bs B w) :
    ∃ g', Gr B F g w F g' w ∧ HR B F w g' H' ∧ VR0 F w g' v' u := by
  cases v with
  | emp =>
    simp only [mkWhole] at h
    cases h
    obtain ⟨A, rfl⟩ := hv
    obtain ⟨g', a, b, k⟩ := new_virt (t := t) false hH hB
    exact ⟨g', a, b, k A⟩
  | all id sz n =>
    simp only [mkWhole] at h
    cases h
    exact ⟨g, Gr.refl .., hH, hv⟩
  | own id sz off n =>
    simp only [mkWhole] at h
    split at h
    · rename_i t' l hb
      cases h
      obtain ⟨e, A, he, hn, hesz, hnc, rfl, hA⟩ := hv
      obtain ⟨k1, k2, k3, k4, k5⟩ := hH.blk id _ e hb he
      have hlen : ((l.drop off).take n).length = n := by simp; omega
      rcases Nat.eq_zero_or_pos (e.cap - off) with hz | hp
      · have hn0 : n = 0 := by omega
        subst hn0
        obtain ⟨g', a, b, k⟩ := new_virt (t := t') false (HR_kill (id := id) hH) hB
        rw [List.length_set] at k
        refine ⟨g', a, by simpa using b, ?_⟩
        rw [hz]
        simpa using k A
      · have hfree := free_F hH hb he (by show 0 < e.cap; omega) (.inr (.inl ⟨_, _, rfl⟩))
        obtain ⟨cur, el, k7, ku, k8, k9⟩ := k5 (by omega)
        obtain ⟨h1, h2⟩ := HR_move (w' := w) (e' := ⟨⟨e.ad.block, e.ad.off + off * t'.size, none⟩, t'.size, e.cap - off, n⟩) (b' := .arr t' ((l.drop off).take n) false)
          hH hb he (by show 0 < e.cap; omega) rfl rfl rfl rfl (fun _ _ => rfl) (fun _ _ _ h => h) (fun hg => by
            refine ⟨rfl, hlen.symm, by rw [hlen]; show n ≤ e.cap - off; omega, rfl, fun _ => ⟨cur, el, k7, ku, ?_, fun i x hx => ?_⟩⟩
            · have a : (off + (e.cap - off)) * t'.size ≤ e.cap * t'.size := Nat.mul_le_mul_right _ (by omega)
              rw [Nat.add_mul] at a
              show e.ad.off + off * t'.size + (e.cap - off) * t'.size ≤ cur.size
              omega
            · have hi := idx_lt hx
              rw [hlen] at hi
              rw [List.getElem?_take, if_pos hi, List.getElem?_drop] at hx
              obtain ⟨us, ha, hu⟩ := k9 (off + i) x hx
              refine ⟨us, CR_gr hg ha, fun j u hj => ?_⟩
              have := hu j u hj
              rw [Nat.add_mul] at this
              show cur[e.ad.off + off * t'.size + (i * t'.size + j)]? = some u
              rw [show e.ad.off + off * t'.size + (i * t'.size + j) = e.ad.off + (off * t'.size + i * t'.size + j) by omega]
              exact this) (fun _ => rfl) (fun o hF _ => absurd hF (hfree o))
        refine ⟨_, h1, h2, ⟨⟨e.ad.block, e.ad.off + off * t'.size, none⟩, t'.size, e.cap - off, n⟩, A, ?_, hlen.symm, rfl, rfl, by rw [hlen], fun hc => ?_, by rw [hlen]; show n ≤ e.cap - off; omega⟩
        · rw [← hH.len, List.getElem?_append_right (Nat.le_refl _)]; simp
        · rw [hA hp, k1]
    · cases h
  | _ => simp [mkWhole] at h
theorem HR_freeze {id : Nat} {T : TypeId} {cs : List AV} {e : GE} (hH : HR B F w g H) (hb : H[id]? = some (.var T cs)) (he : g[id]? = some e) :
    Gr B F g w (fun b o => F b o ∨ b = e.ad.block) g w ∧ HR B (fun b o => F b o ∨ b = e.ad.block) w g (H.set id .dead) := by
  obtain ⟨h1, h2⟩ := hH.own id _ e hb he trivial
  have hgr : Gr B F g w (fun b o => F b o ∨ b = e.ad.block) g w := ⟨fun _ _ h => .inl h, fun b o h => Or.elim h .inl (fun (h : b = e.ad.block) => .inr (by rw [h]; exact h1)), fun _ _ _ _ h => h, fun _ _ h => h, Sam.refl _ _⟩
  have hk := HR_kill (id := id) hH
  refine ⟨hgr, hk.len, fun i b f hb' hf' => ?_, hk.own, hk.sep, fun k o hk' => ?_⟩
  · exact BR_gr hgr (fun _ => rfl) (hk.blk i b f hb' hf')
  · rcases hk' with hk' | rfl
    · exact hk.frz k o hk'
    · refine ⟨h2, fun i b f hb' hf' hr hbk => ?_⟩
      exfalso
      by_cases hi : i = id
      · subst hi
        rw [List.getElem?_set_self (idx_lt hb)] at hb'
        cases hb'
        exact hr
      · rw [List.getElem?_set_ne (fun h => hi h.symm)] at hb'
        exact hH.sep i id b _ f e hb' hb hf' he hr trivial hi hbk
theorem mkFrz_ok {t : Ty} {v v' : AV} {u : Value} {H' : Hp} (h : mkFrz t H v = some (v', H')) (hv : VR0 F w g v u) (hH : HR B F w g H) (hB : Bs B w) :
    ∃ F' g', Gr B F g w F' g' w ∧ HR B F' w g' H' ∧ VR0 F' w g' v' u := by
  unfold mkFrz at h
  split at h
  · rename_i id
    split at h
    · rename_i T cs hb
      split at h
      · rename_i x hx
        cases h
        obtain ⟨e, he, rfl⟩ := hv
        obtain ⟨h1, h2, vs, h3, h4⟩ := hH.blk id _ e hb he
        obtain ⟨pre, v1, v2, e1, e2, hCR, hr0⟩ := collapse_ok hH t _ _ _ _ hx h4
        cases hr0
        simp only [List.append_nil] at e1 e2
        subst e1
        have hgl := lend_gr hH (ownIds cs)
        have hHl := lend_HR hH (ownIds cs)
        have hb' : (lendAll H (ownIds cs))[id]? = some (.var T cs) := by
          have hlt : id < (lendAll H (ownIds cs)).length := by rw [lendAll_len]; exact idx_lt hb
          obtain ⟨c, hc, hcc⟩ := lendAll_get (ownIds cs) H id _ (List.getElem?_eq_getElem hlt)
          rw [hb] at hc
          cases hc
          rcases hcc with hcc | ⟨t', l', s', hcc, _⟩
          · rw [List.getElem?_eq_getElem hlt, hcc]
          · cases hcc
        obtain ⟨k1, k2⟩ := HR_freeze hHl hb' he
        refine ⟨_, g, hgl.trans k1, k2, ⟨e.ad.block, 0, none⟩, by simp, by simp, rfl, fun i y hi => ?_⟩
        have hi0 : i = 0 := by
          have := idx_lt hi
          simp at this; exact this
        subst hi0
        simp only [List.getElem?_cons_zero, Option.some.injEq] at hi
        subst hi
        refine ⟨_, rfl, rfl, v1, CR_gr k1 hCR, CR_len _ _ _ hCR, fun j q hq => ⟨.inr rfl, ?_⟩⟩
        rw [cell_of_block h3]
        simp only [Nat.zero_mul, Nat.zero_add]
        rw [← Array.getElem?_toList, e2]
        exact hq
      · cases h
    · cases h
  · cases h
    exact ⟨F, g, Gr.refl .., hH, hv⟩
  · cases h
theorem act1_ok {a : Act1} {v v' : AV} {u : Value} {H' : Hp} (h : act1 a H v = some (v', H')) (hv : VR2 F w g v u) (hH : HR B F w g H) (hB : Bs B w) :
    ∃ F' g', Gr B F g w F' g' w ∧ HR B F' w g' H' ∧ VR2 F' w g' v' u := by
  cases a with
  | keep => simp only [act1] at h; cases h; exact ⟨F, g, Gr.refl .., hH, hv⟩
  | whole t =>
    simp only [act1] at h
    have hv0 : VR0 F w g v u := by cases v <;> first | exact hv | (simp [mkWhole] at h)
    obtain ⟨g', a, b, c⟩ := mkWhole_ok h hv0 hH hB
    exact ⟨F, g', a, b, VR0_2 c⟩
  | give t =>
    simp only [act1, mkGive] at h
    split at h
    · rename_i l hl
      cases h
      have hv0 := asSl_low hl hv
      exact ⟨_, g, lend_gr hH _, lend_HR hH _, VR0_2 (x := .sl t l) (asSl_ok hl hv0 hH)⟩
    · cases h
  | slf => simp [act1] at h
  | frz t =>
    simp only [act1] at h
    have hv0 : VR0 F w g v u := by cases v <;> first | exact hv | (simp [mkFrz] at h)
    obtain ⟨F', g', a, b, c⟩ := mkFrz_ok h hv0 hH hB
    exact ⟨F', g', a, b, VR0_2 c⟩
theorem act2_ok {id : Nat} {a : Act1} {v v' : AV} {u : Value} {H' : Hp} (h : act2 id a H v = some (v', H')) (hv : VR0 F w g v u) (hid : ∃ e, g[id]? = some e) (hH : HR B F w g H) (hB : Bs B w) :
    ∃ F' g', Gr B F g w F' g' w ∧ HR B F' w g' H' ∧ VR0 F' w g' v' u := by
  cases a with
  | keep => simp only [act2] at h; cases h; exact ⟨F, g, Gr.refl .., hH, hv⟩
  | whole t =>
    simp only [act2] at h
    obtain ⟨g', a, b, c⟩ := mkWhole_ok h hv hH hB
    exact ⟨F, g', a, b, c⟩
  | give t =>
    simp only [act2, mkGive] at h
    split at h
    · rename_i l hl
      cases h
      exact ⟨_, g, lend_gr hH _, lend_HR hH _, asSl_ok hl hv hH⟩
    · cases h
  | slf =>
    simp only [act2] at h
    obtain ⟨e, he⟩ := hid
    split at h
    · cases h
      exact ⟨F, g, Gr.refl .., hH, e, he, .inl hv⟩
    · split at h
      · rename_i hi
        have hi := Nat.eq_of_beq_eq_true hi
        subst hi
        cases h
        exact ⟨F, g, Gr.refl .., hH, hv⟩
      · cases h
    · split at h
      · rename_i hi
        have hi := Nat.eq_of_beq_eq_true hi
        subst hi
        cases h
        obtain ⟨e', he', hv⟩ := hv
        exact ⟨F, g, Gr.refl .., hH, e', he', .inr hv⟩
      · cases h
    · cases h
  | frz t => simp [act2] at h
theorem acts_ok {a : Act} : ∀ (as : List (Nat × Option Nat × Act1)) (ts ts' : List AV) (H H' : Hp) (F : Fz) (g : List GE), acts as ts H = some (ts', H') → St B F g w H ts a →
    ∃ F' g', Gr B F g w F' g' w ∧ St B F' g' w H' ts' a
  | [], ts, ts', H, H', F, g, h, hs => by
    simp only [acts] at h
    cases h
    exact ⟨F, g, Gr.refl .., hs⟩
  | (s, some c, q) :: r, ts, ts', H, H', F, g, h, hs => by
    simp only [acts] at h
    split at h
    · rename_i id j hts
      split at h
      · rename_i T cs hid
        split at h
        · rename_i v H1 hv
          split at h
          · rename_i T' cs' hid'
            have hlt := idx_lt hid
            have hgl : g[id]? = some (g[id]'(by rw [hs.heap.len]; exact hlt)) := List.getElem?_eq_getElem _
            obtain ⟨k1, k2, vs, k3, k4⟩ := hs.heap.blk id _ _ hid hgl
            have hcell : ∃ u, VR0 F w g (cs.getD c .top) u ∧ (c < cs.length → vs.toList[c]? = some u) := by
              cases hc : cs[c]? with
              | none => exact ⟨undef, by simp [List.getD, hc]; exact trivial, fun h => by rw [List.getElem?_eq_none_iff] at hc; omega⟩
              | some y =>
                obtain ⟨u, hu, hy⟩ := k4.get c y hc
                exact ⟨u, by simpa [List.getD, hc] using hy, fun _ => hu⟩
            obtain ⟨u, hu1, hu2⟩ := hcell
            obtain ⟨F1, g1, q1, q2, q3⟩ := act2_ok hv hu1 ⟨_, hgl⟩ hs.heap hs.base
            have hgl1 := q1.ext _ _ hgl
            obtain ⟨m1, m2, vs', m3, m4⟩ := q2.blk id _ _ hid' hgl1
            rw [k3] at m3
            cases m3
            have hset := HR_set (w' := w) (b' := .var T (cs'.set c v)) q2 hid' hgl1 trivial (.inl ⟨_, _, rfl⟩) rfl rfl rfl rfl (fun _ _ => rfl) (fun _ => by
              refine ⟨m1, m2, vs, k3, ?_⟩
              by_cases hc : c < cs'.length
              · have hcl : c < cs.length := by rw [k4.length, ← m4.length]; exact hc
                have := m4.set q3 c
                rwa [show vs.toList.set c u = vs.toList from by
                  apply List.ext_getElem?
                  intro j
                  by_cases hj : c = j
                  · subst hj; rw [List.getElem?_set_self (idx_lt (hu2 hcl)), hu2 hcl]
                  · rw [List.getElem?_set_ne hj]] at this
              · rw [List.set_eq_of_length_le (by omega)]
                exact m4) (by intro _ _ h; cases h)
            obtain ⟨F2, g2, h3, h4⟩ := acts_ok r ts ts' _ H' F1 g1 h ⟨hs.tmps.mono fun _ _ => VR2_gr (q1.trans hset.1), hset.2, hs.base, hs.defers⟩
            exact ⟨F2, g2, (q1.trans hset.1).trans h3, h4⟩
          · cases h
        · cases h
      · cases h
    · cases h
  | (s, none, q) :: r, ts, ts', H, H', F, g, h, hs => by
    simp only [acts] at h
    split at h
    · rename_i v H1 hv
      cases ht : ts[s]? with
      | none =>
        have hset : ts.set s v = ts := by
          rw [List.set_eq_of_length_le]
          rw [List.getElem?_eq_none_iff] at ht; exact ht
        rw [hset] at h
        simp only [List.getD, ht, Option.getD_none] at hv
        obtain ⟨F1, g1, h1, h2, _⟩ := act1_ok (u := undef) hv trivial hs.heap hs.base
        obtain ⟨F2, g2, h3, h4⟩ := acts_ok r ts ts' H1 H' F1 g1 h ⟨hs.tmps.mono fun _ _ => VR2_gr h1, h2, hs.base, hs.defers⟩
        exact ⟨F2, g2, h1.trans h3, h4⟩
      | some y =>
        obtain ⟨u, hu, hyu⟩ := hs.tmps.get s y ht
        simp only [List.getD, ht, Option.getD_some] at hv
        obtain ⟨F1, g1, h1, h2, h3⟩ := act1_ok hv hyu hs.heap hs.base
        have htm : All2 (VR2 F1 w g1) (ts.set s v) a.tmps.toList := by
          have := (hs.tmps.mono fun _ _ => VR2_gr h1).set h3 s
          rwa [show a.tmps.toList.set s u = a.tmps.toList from by
            apply List.ext_getElem?
            intro j
            by_cases hj : s = j
            · subst hj; rw [List.getElem?_set_self (idx_lt hu), hu]
            · rw [List.getElem?_set_ne hj]] at this
        obtain ⟨F2, g2, h4, h5⟩ := acts_ok r _ ts' H1 H' F1 g1 h ⟨htm, h2, hs.base, hs.defers⟩
        exact ⟨F2, g2, h1.trans h4, h5⟩
    · cases h
end
end Go.Proofs.YtmojilihllhadaaGreatDoor.Ev
/- Calls that take own slices: what goes along, and the state behind. -/
namespace Go.Proofs.YtmojilihllhadaaGreatDoor.Ev
open Go Go.RowKit
set_option linter.unusedVariables false
set_option linter.unusedSimpArgs false
section
variable {P : Program} {E : Env} {B : Nat → Prop} {F : Fz} {g : List GE} {w : World} {H : Hp}
def Sh (g1 g2 : List GE) (b1 b2 : Nat) : Prop := ∀ (j : Nat) e, g1[b1 + j]? = some e → g2[b2 + j]? = some e
theorem all_sh {F : Fz} {w : World} {g1 g2 : List GE} {b1 b2 : Nat} (h : Sh g1 g2 b1 b2) (j sz n : Nat) : Up F F w w g1 g2 (.all (b1 + j) sz n) (.all (b2 + j) sz n) := by
  rintro v ⟨e, A, h1, h2⟩
  exact ⟨e, A, h j e h1, h2⟩
theorem ownCells_sh {F : Fz} {w : World} {g1 g2 : List GE} {b1 b2 : Nat} (h : Sh g1 g2 b1 b2) : (t : Ty) → (x : t.den) → (j : Nat) → All2 (Up F F w w g1 g2) (ownCells t x (b1 + j)).1 (ownCells t x (b2 + j)).1
  | .int _, _, _ => .cons (fun _ h => h) .nil
  | .bool, _, _ => .cons (fun _ h => h) .nil
  | .str, _, _ => .cons (fun _ h => h) .nil
  | .unit, _, _ => .nil
  | .sl t, l, j => .cons (all_sh h j t.size l.length) .nil
  | .st t, x, j => ownCells_sh h t x j
  | .pair s t, x, j => by
    simp only [ownCells]
    rw [ownCells_blk s x.1 (b2 + j) (b1 + j), Nat.add_assoc, Nat.add_assoc]
    exact (ownCells_sh h s x.1 j).append (ownCells_sh h t x.2 _)
theorem ownVal_sh {F : Fz} {w : World} {g1 g2 : List GE} {b1 b2 : Nat} (h : Sh g1 g2 b1 b2) (t : Ty) (x : t.den) (j : Nat) : Up1 F F w w g1 g2 (ownVal t x (b1 + j)).1 (ownVal t x (b2 + j)).1 := by
  cases t with
  | st t =>
    rintro v ⟨vs, rfl, hv⟩
    exact ⟨vs, rfl, (ownCells_sh h t x j).up hv⟩
  | sl t => exact (all_sh h j t.size x.length : Up F F w w g1 g2 _ _)
  | _ => exact fun _ h => h
theorem retVals_sh (own : Bool) {F : Fz} {w : World} {g1 g2 : List GE} {b1 b2 : Nat} (h : Sh g1 g2 b1 b2) : (ts : List Ty) → (x : (retTy ts).den) → (j : Nat) → All2 (Up1 F F w w g1 g2) (retVals own ts x (b1 + j)).1 (retVals own ts x (b2 + j)).1
  | [], _, _ => by cases own <;> exact .nil
  | [t], x, j => by
    cases own with
    | false => exact .cons (toAV_up t x (.inr fun _ _ _ hv => hv)) .nil
    | true => exact .cons (ownVal_sh h t x j) .nil
  | t :: u :: ts, x, j => by
    cases own with
    | false => exact .cons (toAV_up t x.1 (.inr fun _ _ _ hv => hv)) (retVals_sh false h (u :: ts) x.2 j)
    | true =>
      simp only [retVals]
      rw [ownVal_blk t x.1 (b2 + j) (b1 + j), Nat.add_assoc, Nat.add_assoc]
      exact .cons (ownVal_sh h t x.1 j) (retVals_sh true h (u :: ts) x.2 _)
theorem bkCells_blk : (fs : List (Ty × Bool)) → (x : (cellTy fs).den) → (b b' : Nat) → (bkCells fs x b).2 = (bkCells fs x b').2
  | [], _, _, _ => rfl
  | (t, true) :: r, x, b, b' => by
    simp only [bkCells]
    rw [ownCells_blk t x.1 b b', bkCells_blk r x.2 _ (b' + (ownCells t x.1 b').2.length)]
  | (t, false) :: r, x, b, b' => by simp only [bkCells]; exact bkCells_blk r x.2 b b'
theorem bkOne_blk (k : Bk) (x : (bkTy k).den) (b b' : Nat) : (bkOne k x b).2 = (bkOne k x b').2 := by
  cases k with
  | arr t => rfl
  | var T fs => exact bkCells_blk fs x b b'
theorem backBlks_blk : (back : List Bk) → (x : (retTy (slTys back)).den) → (b b' : Nat) → (backBlks back x b).2 = (backBlks back x b').2
  | [], _, _, _ => rfl
  | [k], x, b, b' => bkOne_blk k x b b'
  | k :: k' :: r, x, b, b' => by
    simp only [backBlks]
    rw [bkOne_blk k x.1 b b', backBlks_blk (k' :: r) x.2 _ (b' + (bkOne k x.1 b').2.length)]
theorem bkCells_arrs : (fs : List (Ty × Bool)) → (x : (cellTy fs).den) → (b : Nat) → Arrs (bkCells fs x b).2
  | [], _, _ => by intro b h; cases h
  | (t, true) :: r, x, b => by
    intro c hc
    simp only [bkCells] at hc
    rcases List.mem_append.1 hc with hc | hc
    · exact ownCells_arrs t _ _ c hc
    · exact bkCells_arrs r x.2 _ c hc
  | (t, false) :: r, x, b => by simp only [bkCells]; exact bkCells_arrs r x.2 b
theorem bkOne_arrs (k : Bk) (x : (bkTy k).den) (b : Nat) : Arrs (bkOne k x b).2 := by
  cases k with
  | arr t => intro b h; cases h
  | var T fs => exact bkCells_arrs fs x b
theorem backBlks_arrs : (back : List Bk) → (x : (retTy (slTys back)).den) → (b : Nat) → Arrs (backBlks back x b).2
  | [], _, _ => by intro b h; cases h
  | [k], x, b => bkOne_arrs k x b
  | k :: k' :: r, x, b => by
    intro c hc
    simp only [backBlks] at hc
    rcases List.mem_append.1 hc with hc | hc
    · exact bkOne_arrs k _ _ c hc
    · exact backBlks_arrs (k' :: r) x.2 _ c hc
theorem backBlks_len : (back : List Bk) → (x : (retTy (slTys back)).den) → (b : Nat) → (backBlks back x b).1.length = back.length
  | [], _, _ => rfl
  | [k], _, _ => rfl
  | k :: k' :: r, x, b => by simp only [backBlks, List.length_cons]; rw [backBlks_len (k' :: r) x.2]; rfl
theorem ownCells_free : (t : Ty) → (x : t.den) → (b : Nat) → ∀ c ∈ (ownCells t x b).2, ∃ t l, c = .arr t l false
  | .int _, _, _ => by intro b h; cases h
  | .bool, _, _ => by intro b h; cases h
  | .str, _, _ => by intro b h; cases h
  | .unit, _, _ => by intro b h; cases h
  | .sl t, l, _ => by intro c h; simp only [ownCells, List.mem_singleton] at h; exact ⟨t, l, h⟩
  | .st t, x, b => ownCells_free t x b
  | .pair s t, x, b => by
    intro c hc
    simp only [ownCells] at hc
    rcases List.mem_append.1 hc with hc | hc
    · exact ownCells_free s _ _ c hc
    · exact ownCells_free t _ _ c hc
theorem ownVal_free (t : Ty) (x : t.den) (b : Nat) : ∀ c ∈ (ownVal t x b).2, ∃ t l, c = .arr t l false := by
  cases t with
  | st t => exact ownCells_free t x b
  | sl t => exact ownCells_free (.sl t) x b
  | _ => intro b h; cases h
theorem retVals_free (own : Bool) : (ts : List Ty) → (x : (retTy ts).den) → (b : Nat) → ∀ c ∈ (retVals own ts x b).2, ∃ t l, c = .arr t l false
  | [], _, _ => by cases own <;> (intro b h; cases h)
  | [t], x, b => by
    cases own with
    | false => intro b h; cases h
    | true => exact ownVal_free t x b
  | t :: u :: ts, x, b => by
    cases own with
    | false => intro b h; cases h
    | true =>
      intro c hc
      simp only [retVals] at hc
      rcases List.mem_append.1 hc with hc | hc
      · exact ownVal_free t _ _ c hc
      · exact retVals_free true (u :: ts) x.2 _ c hc
theorem bkCells_free : (fs : List (Ty × Bool)) → (x : (cellTy fs).den) → (b : Nat) → ∀ c ∈ (bkCells fs x b).2, ∃ t l, c = .arr t l false
  | [], _, _ => by intro b h; cases h
  | (t, true) :: r, x, b => by
    intro c hc
    simp only [bkCells] at hc
    rcases List.mem_append.1 hc with hc | hc
    · exact ownCells_free t _ _ c hc
    · exact bkCells_free r x.2 _ c hc
  | (t, false) :: r, x, b => by simp only [bkCells]; exact bkCells_free r x.2 b
theorem bkOne_free (k : Bk) (x : (bkTy k).den) (b : Nat) : ∀ c ∈ (bkOne k x b).2, ∃ t l, c = .arr t l false := by
  cases k with
  | arr t => intro b h; cases h
  | var T fs => exact bkCells_free fs x b
theorem backBlks_free : (back : List Bk) → (x : (retTy (slTys back)).den) → (b : Nat) → ∀ c ∈ (backBlks back x b).2, ∃ t l, c = .arr t l false
  | [], _, _ => by intro b h; cases h
  | [k], x, b => bkOne_free k x b
  | k :: k' :: r, x, b => by
    intro c hc
    simp only [backBlks] at hc
    rcases List.mem_append.1 hc with hc | hc
    · exact bkOne_free k _ _ c hc
    · exact backBlks_free (k' :: r) x.2 _ c hc
def BlkSh (F : Fz) (w : World) (g1 g2 : List GE) (c b : Blk) : Prop :=
  (c = b ∧ ∃ t l, c = .arr t l false) ∨ ∃ T cs cs', c = .var T cs ∧ b = .var T cs' ∧ All2 (Up F F w w g1 g2) cs cs'
theorem BlkSh.br {F : Fz} {w : World} {g1 g2 : List GE} {c b : Blk} {e : GE} (h : BlkSh F w g1 g2 c b) (k : BR F w g1 e c) : BR F w g2 e b := by
  rcases h with ⟨rfl, t, l, rfl⟩ | ⟨T, cs, cs', rfl, rfl, hu⟩
  · exact k
  · obtain ⟨h1, h2, vs, h3, h4⟩ := k
    exact ⟨h1, h2, vs, h3, hu.up h4⟩
theorem BlkSh.real {F : Fz} {w : World} {g1 g2 : List GE} {c b : Blk} {e : GE} (h : BlkSh F w g1 g2 c b) (k : Real b e) : Real c e := by
  rcases h with ⟨rfl, _⟩ | ⟨T, cs, cs', rfl, rfl, hu⟩
  · exact k
  · trivial
theorem bkCells_sh {F : Fz} {w : World} {g1 g2 : List GE} {b1 b2 : Nat} (h : Sh g1 g2 b1 b2) : (fs : List (Ty × Bool)) → (x : (cellTy fs).den) → (j : Nat) → All2 (Up F F w w g1 g2) (bkCells fs x (b1 + j)).1 (bkCells fs x (b2 + j)).1
  | [], _, _ => .nil
  | (t, true) :: r, x, j => by
    simp only [bkCells]
    rw [ownCells_blk t x.1 (b2 + j) (b1 + j), Nat.add_assoc, Nat.add_assoc]
    exact (ownCells_sh h t x.1 j).append (bkCells_sh h r x.2 _)
  | (t, false) :: r, x, j => by
    simp only [bkCells]
    exact (explode_up (F := F) (F' := F) (w := w) (w' := w) (g := g1) (g' := g2) t x.1 (.inr fun _ _ _ hv => hv)).append (bkCells_sh h r x.2 j)
theorem bkOne_sh {F : Fz} {w : World} {g1 g2 : List GE} {b1 b2 : Nat} (h : Sh g1 g2 b1 b2) (k : Bk) (x : (bkTy k).den) (j : Nat) : BlkSh F w g1 g2 (bkOne k x (b1 + j)).1 (bkOne k x (b2 + j)).1 := by
  cases k with
  | arr t => exact .inl ⟨rfl, t, x, rfl⟩
  | var T fs => exact .inr ⟨T, _, _, rfl, rfl, bkCells_sh h fs x j⟩
theorem backBlks_sh {F : Fz} {w : World} {g1 g2 : List GE} {b1 b2 : Nat} (h : Sh g1 g2 b1 b2) : (back : List Bk) → (x : (retTy (slTys back)).den) → (j : Nat) → All2 (BlkSh F w g1 g2) (backBlks back x (b1 + j)).1 (backBlks back x (b2 + j)).1
  | [], _, _ => .nil
  | [k], x, j => .cons (bkOne_sh h k x j) .nil
  | k :: k' :: r, x, j => by
    simp only [backBlks]
    rw [bkOne_blk k x.1 (b2 + j) (b1 + j), Nat.add_assoc, Nat.add_assoc]
    exact .cons (bkOne_sh h k x.1 j) (backBlks_sh h (k' :: r) x.2 _)
def KK (B : Nat → Prop) (g : List GE) (H : Hp) (ids : List Nat) : Nat → Prop := fun k => B k ∨ ∃ i b e, i ∉ ids ∧ H[i]? = some b ∧ g[i]? = some e ∧ Real b e ∧ e.ad.block = k
theorem KK_base (hH : HR B F w g H) (hB : Bs B w) (ids : List Nat) : Bs (KK B g H ids) w := by
  rintro k (h | ⟨i, b, e, _, h1, h2, h3, rfl⟩)
  · exact hB k h
  · exact (hH.own i b e h1 h2 h3).2
theorem take_HR (hH : HR B F w g H) {ids : List Nat} (hn : ids.Nodup) : HR (KK B g H ids) F w (reG g ids) (pickH H ids) := by
  have hp := pickH_ok hH hn
  refine ⟨hp.len, hp.blk, fun j b e hb he hr => ⟨?_, (hp.own j b e hb he hr).2⟩, hp.sep, hp.frz⟩
  rintro (h | ⟨i, c, f, hi, h1, h2, h3, h4⟩)
  · exact (hp.own j b e hb he hr).1 h
  · simp only [pickH, List.getElem?_map, Option.map_eq_some_iff] at hb
    obtain ⟨k, hk, rfl⟩ := hb
    simp only [reG, List.getElem?_map, hk, Option.map_some, Option.some.injEq] at he
    cases hc : H[k]? with
    | none => rw [show H.getD k .dead = .dead by simp [List.getD, hc]] at hr; exact hr.elim
    | some c' =>
      have hlt := idx_lt hc
      have hg : g[k]? = some (g[k]'(by have := hH.len; omega)) := List.getElem?_eq_getElem (by have := hH.len; omega)
      have he' : g[k]? = some e := by rw [hg, ← he]; simp [List.getD, hg]
      rw [show H.getD k .dead = c' by simp [List.getD, hc]] at hr
      refine hH.sep i k c c' f e h1 hc h2 he' h3 (renB_real.1 hr) ?_ h4
      rintro rfl
      exact hi (List.mem_of_getElem? hk)
theorem takeV_ok (hH : HR B F w g H) {ids : List Nat} {v : AV} {u : Value} (hv : VR0 F w g v u) : VR0 F w (reG g ids) (takeV H ids v) u := by
  cases v with
  | all id s n =>
    simp only [takeV]
    split
    · rename_i j t l s' hs hb
      obtain ⟨e, A, h1, h2, h3⟩ := hv
      have hl := (hH.blk id _ e hb h1).2.1
      exact ⟨e, A, reG_get hs h1, hl, by rw [← hl, h2]; exact h3⟩
    · trivial
  | own id s off n =>
    simp only [takeV]
    split
    · rename_i j hs
      obtain ⟨e, A, h1, h2⟩ := hv
      exact ⟨e, A, reG_get hs h1, h2⟩
    · trivial
  | ptr id i =>
    simp only [takeV]
    split
    · rename_i j hs
      obtain ⟨e, h1, h2⟩ := hv
      exact ⟨e, reG_get hs h1, h2⟩
    · trivial
  | eptr => trivial
  | aptr => trivial
  | slf => trivial
  | mp => trivial
  | _ => exact hv
theorem capV_ok' {v : AV} {u : Value} {g' : List GE} (hv : VR0 F w g v u) : VR0 F w g' (capV v) u := by
  cases v with
  | all => trivial
  | own => trivial
  | ptr => trivial
  | eptr => trivial
  | aptr => trivial
  | slf => trivial
  | mp => trivial
  | _ => exact hv
theorem takeArg_ok (hH : HR B F w g H) {ids : List Nat} {v : AV} {u : Value} (hv : VR2 F w g v u) : VR2 F w (reG g ids) (takeArg H ids v) u := by
  have leaf : ∀ v, takeArg H ids v = takeV H ids v → VR0 F w g v u → VR2 F w (reG g ids) (takeArg H ids v) u := fun v e h => by rw [e]; exact VR0_2 (takeV_ok hH h)
  cases v with
  | agg cs =>
    obtain ⟨vs, rfl, hc⟩ := hv
    refine ⟨vs, rfl, ?_⟩
    simpa using hc.map (takeV H ids) id (T := VR0 F w (reG g ids)) fun _ _ h => takeV_ok hH h
  | fn f cs =>
    obtain ⟨vs, rfl, hc⟩ := hv
    refine ⟨vs, rfl, ?_⟩
    simpa using hc.map capV id (T := VR0 F w (reG g ids)) fun _ _ h => capV_ok' h
  | tup cs => trivial
  | _ => exact leaf _ rfl hv
theorem setBack_len : ∀ (ids : List Nat) (bb H : Hp), (setBack H ids bb).length = H.length
  | [], _, _ => rfl
  | i :: r, [], H => by simp only [setBack]; rw [setBack_len r]; simp
  | i :: r, b :: bs, H => by simp only [setBack]; rw [setBack_len r]; simp
theorem setBack_get : ∀ (ids : List Nat) (bb H : Hp), ids.Nodup → ∀ (i : Nat) b, (setBack H ids bb)[i]? = some b →
    (i ∉ ids ∧ H[i]? = some b) ∨ ∃ j : Nat, ids[j]? = some i ∧ ((bb.length ≤ j ∧ b = .dead) ∨ bb[j]? = some b)
  | [], _, _, _, i, b, h => .inl ⟨by simp, h⟩
  | k :: r, [], H, hn, i, b, h => by
    rw [List.nodup_cons] at hn
    rcases setBack_get r [] _ hn.2 i b h with ⟨h1, h2⟩ | ⟨j, h1, h2⟩
    · by_cases hk : k = i
      · subst hk
        rw [List.getElem?_set] at h2
        split at h2
        · split at h2
          · exact .inr ⟨0, rfl, .inl ⟨Nat.le_refl _, (Option.some.inj h2).symm⟩⟩
          · cases h2
        · rename_i hh; exact absurd rfl hh
      · rw [List.getElem?_set_ne hk] at h2
        exact .inl ⟨by simp [Ne.symm hk, h1], h2⟩
    · rcases h2 with ⟨_, h2⟩ | h2
      · exact .inr ⟨j + 1, by simpa using h1, .inl ⟨Nat.zero_le _, h2⟩⟩
      · simp at h2
  | k :: r, b0 :: bs, H, hn, i, b, h => by
    rw [List.nodup_cons] at hn
    rcases setBack_get r bs _ hn.2 i b h with ⟨h1, h2⟩ | ⟨j, h1, h2⟩
    · by_cases hk : k = i
      · subst hk
        rw [List.getElem?_set] at h2
        split at h2
        · split at h2
          · exact .inr ⟨0, rfl, .inr (by simpa using h2)⟩
          · cases h2
        · rename_i hh; exact absurd rfl hh
      · rw [List.getElem?_set_ne hk] at h2
        exact .inl ⟨by simp [Ne.symm hk, h1], h2⟩
    · rcases h2 with ⟨h3, h2⟩ | h2
      · exact .inr ⟨j + 1, by simpa using h1, .inl ⟨by simpa using h3, h2⟩⟩
      · exact .inr ⟨j + 1, by simpa using h1, .inr (by simpa using h2)⟩
theorem call_backT (hH : HR B F w g H) {own : Bool} {ts : List Ty} {back : List Bk} {x : RetT ts back} {v : Value} {w' : World} {π : List Nat} (hn : π.Nodup)
    (hbl : back.length ≤ π.length) (hr : RetOk (KK B g H π) own ts back F (reG g π) w w' x v) :
    ∃ F' g', Gr B F g w F' g' w' ∧ HR B F' w' g' (takeBack own ts back x H π).2 ∧ VR2 F' w' g' (takeBack own ts back x H π).1 v := by
  obtain ⟨F', g', hg, hc, hv⟩ := hr
  have hlen := hH.len
  generalize hy : rSnd ts back x = y at hc hv
  unfold takeBack
  simp only [hy]
  have hI : (backBlks back y H.length).2 = (backBlks back y back.length).2 := backBlks_blk back y _ _
  rw [hI]
  have hR : (retVals own ts (rFst ts back x) (H.length + (backBlks back y back.length).2.length)).2 = (retVals own ts (rFst ts back x) (back.length + (backBlks back y back.length).2.length)).2 := retVals_blk own ts _ _ _
  rw [hR]
  have hgl : (gb back (reG g π)).length = back.length := by
    simp only [gb, reG, List.length_take, List.length_map]; omega
  have hcl := hc.len
  rw [List.length_append, List.length_append, hgl, backBlks_len] at hcl
  have hsh : Sh (gb back (reG g π) ++ g') (g ++ g') back.length H.length := by
    intro j e h
    rw [List.getElem?_append_right (by omega)] at h ⊢
    rw [hgl, Nat.add_sub_cancel_left] at h
    rw [hlen, Nat.add_sub_cancel_left]
    exact h
  have hTT := backBlks_sh (F := F') (w := w') hsh back y 0
  simp only [Nat.add_zero] at hTT
  have hTm := backBlks_len back y back.length
  have hTN := backBlks_len back y H.length
  have hIa : Arrs (backBlks back y back.length).2 := backBlks_arrs back y _
  have hvv := retVals_sh own hsh (F := F') (w := w') ts (rFst ts back x) (backBlks back y back.length).2.length
  have hRa : Arrs (retVals own ts (rFst ts back x) (back.length + (backBlks back y back.length).2.length)).2 := retVals_arrs own ts _ _
  have hIf : ∀ b ∈ (backBlks back y back.length).2, ∃ t l, b = .arr t l false := backBlks_free back y _
  have hRf : ∀ b ∈ (retVals own ts (rFst ts back x) (back.length + (backBlks back y back.length).2.length)).2, ∃ t l, b = .arr t l false := retVals_free own ts _ _
  generalize (backBlks back y back.length).1 = Tm at hc hTT hTm hcl
  generalize (backBlks back y H.length).1 = TN at hTT hTN
  generalize (backBlks back y back.length).2 = I at hc hvv hv hIf hRf hcl hRa
  generalize (retVals own ts (rFst ts back x) (back.length + I.length)).2 = R at hc hRf hcl hRa
  have hreg : ∀ (j i : Nat) e, π[j]? = some i → g[i]? = some e → j < back.length → (gb back (reG g π) ++ g')[j]? = some e := by
    intro j i e h1 h2 h3
    rw [List.getElem?_append_left (by omega)]
    unfold gb
    rw [List.getElem?_take, if_pos h3]
    simp [reG, h1, List.getD, h2]
  have hpair : ∀ (i : Nat) (b : Blk) (e : GE), (setBack H π TN ++ (I ++ R))[i]? = some b → (g ++ g')[i]? = some e →
      (i ∉ π ∧ H[i]? = some b ∧ g[i]? = some e) ∨ b = .dead ∨
      ∃ (j : Nat) (c : Blk), (Tm ++ (I ++ R))[j]? = some c ∧ (gb back (reG g π) ++ g')[j]? = some e ∧ BlkSh F' w' (gb back (reG g π) ++ g') (g ++ g') c b ∧
        ((j < back.length ∧ π[j]? = some i ∧ i < H.length) ∨ (back.length ≤ j ∧ i = H.length + (j - back.length))) := by
    intro i b e hb he
    rcases get_app hb with h1 | ⟨h1, h2⟩
    · have hlt := idx_lt h1
      rw [setBack_len] at hlt
      have he' : g[i]? = some e := by rw [List.getElem?_append_left (by omega)] at he; exact he
      rcases setBack_get π TN H hn i b h1 with ⟨h3, h4⟩ | ⟨j, h3, ⟨_, h4⟩ | h4⟩
      · exact .inl ⟨h3, h4, he'⟩
      · exact .inr (.inl h4)
      · have hj := idx_lt h4
        obtain ⟨c, hc1, hc2⟩ := hTT.getR j b h4
        refine .inr (.inr ⟨j, c, by rw [List.getElem?_append_left (by omega)]; exact hc1, hreg j i e h3 he' (by omega), hc2, .inl ⟨by omega, h3, hlt⟩⟩)
    · rw [setBack_len] at h1 h2
      have he' : g'[i - H.length]? = some e := by rw [List.getElem?_append_right (by omega), hlen] at he; exact he
      refine .inr (.inr ⟨back.length + (i - H.length), b, ?_, ?_, .inl ⟨rfl, ?_⟩, .inr ⟨by omega, by omega⟩⟩)
      · rw [List.getElem?_append_right (by omega), hTm, Nat.add_sub_cancel_left]; exact h2
      · rw [List.getElem?_append_right (by omega), hgl, Nat.add_sub_cancel_left]; exact he'
      · rcases List.mem_append.1 (List.mem_of_getElem? h2) with h | h
        · exact hIf b h
        · exact hRf b h
  have hG : Gr B F g w F' (g ++ g') w' := ⟨hg.up, fun b o h => (hg.new b o h).imp id (fun h hb => h (.inl hb)), hg.cell, fun i e h => by rw [List.getElem?_append_left (idx_lt h)]; exact h, hg.below.mono fun k hk => .inl hk⟩
  refine ⟨F', g ++ g', hG, ⟨?_, fun i b e hb he => ?_, fun i b e hb he hr => ?_, fun i k b c e f hb hcc he hf hr hs hik => ?_, fun k o hk => ?_⟩, ?_⟩
  · have h1 : (g ++ g').length = g.length + g'.length := List.length_append
    have h2 : (setBack H π TN ++ (I ++ R)).length = (setBack H π TN).length + (I ++ R).length := List.length_append
    rw [h1, h2, setBack_len, hlen]
    have h3 : (Tm ++ (I ++ R)).length = Tm.length + (I ++ R).length := List.length_append
    omega
  · rcases hpair i b e hb he with ⟨h1, h2, h3⟩ | rfl | ⟨j, c, h1, h2, h3, _⟩
    · exact BR_gr hG (fun hr => hg.below.block _ (.inr ⟨i, b, e, h1, h2, h3, hr, rfl⟩)) (hH.blk i b e h2 h3)
    · trivial
    · exact h3.br (hc.blk j c e h1 h2)
  · rcases hpair i b e hb he with ⟨h1, h2, h3⟩ | rfl | ⟨j, c, h1, h2, h3, _⟩
    · have := hH.own i b e h2 h3 hr
      exact ⟨this.1, Nat.lt_of_lt_of_le this.2 hg.below.size⟩
    · exact hr.elim
    · have := hc.own j c e h1 h2 (h3.real hr)
      exact ⟨fun hb => this.1 (.inl hb), this.2⟩
  · rcases hpair i b e hb he with ⟨h1, h2, h3⟩ | rfl | ⟨j, b', h1, h2, h3, hj⟩
    · rcases hpair k c f hcc hf with ⟨h4, h5, h6⟩ | rfl | ⟨j', c', h4, h5, h6, _⟩
      · exact hH.sep i k b c e f h2 h5 h3 h6 hr hs hik
      · exact hs.elim
      · intro heq
        exact (hc.own j' c' f h4 h5 (h6.real hs)).1 (.inr ⟨i, b, e, h1, h2, h3, hr, heq⟩)
    · exact hr.elim
    · rcases hpair k c f hcc hf with ⟨h4, h5, h6⟩ | rfl | ⟨j', c', h4, h5, h6, hj'⟩
      · intro heq
        exact (hc.own j b' e h1 h2 (h3.real hr)).1 (.inr ⟨k, c, f, h4, h5, h6, hs, heq.symm⟩)
      · exact hs.elim
      · refine hc.sep j j' b' c' e f h1 h4 h2 h5 (h3.real hr) (h6.real hs) ?_
        rintro rfl
        rcases hj with ⟨q1, q2, _⟩ | ⟨q1, q2⟩ <;> rcases hj' with ⟨q3, q4, _⟩ | ⟨q3, q4⟩
        · rw [q2] at q4; cases q4; exact hik rfl
        · omega
        · omega
        · omega
  · obtain ⟨k1, k2⟩ := hc.frz k o hk
    refine ⟨k1, fun i b e hb he hr hbk => ?_⟩
    rcases hpair i b e hb he with ⟨h1, h2, h3⟩ | rfl | ⟨j, c, h1, h2, h3, _⟩
    · rcases hg.new k o hk with h | h
      · exact (hH.frz k o h).2 i b e h2 h3 hr hbk
      · exact absurd (.inr ⟨i, b, e, h1, h2, h3, hr, hbk⟩) h
    · exact hr.elim
    · obtain ⟨t, l, rfl, hlt⟩ := k2 j c e h1 h2 (h3.real hr) hbk
      rcases h3 with ⟨_, t', l', h3⟩ | ⟨T, cs, cs', h3, _⟩
      · cases h3
      · cases h3
  · exact one_up hvv (retVals_tup own ts _ _) hv
/-! #### what goes along with a call that takes -/
theorem giveV_ok {v : AV} {u : Value} {ids : List Nat} (hv : VR0 F w g v u) (hH : HR B F w g H) (hi : ∀ i ∈ ownIds [v], i ∈ ids) : VR0 (lendF F g H ids) w g (giveV H v) u := by
  have hg := lend_gr hH ids
  cases v with
  | all id sz n =>
    simp only [giveV]
    split
    · rename_i t l s hb
      have := asSl_ok (t := t) (l := l) (by simp [asSl, hb, castL?]) hv hH
      exact CR_lend hi this
    · trivial
  | own id sz off n =>
    simp only [giveV]
    split
    · rename_i t l s hb
      have := asSl_ok (t := t) (l := (l.drop off).take n) (by simp [asSl, hb, castL?]) hv hH
      exact CR_lend hi this
    · trivial
  | ptr id i => exact VR0_gr (x := .ptr id i) hg hv
  | eptr id i j => exact VR0_gr (x := .eptr id i j) hg hv
  | aptr id i j => exact VR0_gr (x := .aptr id i j) hg hv
  | slf id => exact VR0_gr (x := .slf id) hg hv
  | mp id => exact VR0_gr (x := .mp id) hg hv
  | sl t l => exact VR0_gr (x := .sl t l) hg hv
  | rptr t l i j => exact VR0_gr (x := .rptr t l i j) hg hv
  | _ => exact hv
theorem giveArg_ok {v : AV} {u : Value} {ids : List Nat} (hv : VR2 F w g v u) (hH : HR B F w g H) (hi : ∀ i ∈ ownIds (cellsOf v), i ∈ ids) : VR2 (lendF F g H ids) w g (giveArg H v) u := by
  cases v with
  | agg cs =>
    obtain ⟨vs, rfl, hc⟩ := hv
    refine ⟨vs, rfl, ?_⟩
    replace hi : ∀ i ∈ ownIds cs, i ∈ ids := hi
    generalize vs.toList = m at hc
    induction hc with
    | nil => exact .nil
    | cons h t ih =>
      rename_i a b l m'
      rw [ownIds_cons] at hi
      exact .cons (giveV_ok h hH fun i h' => hi i (List.mem_append_left _ h')) (ih fun i h' => hi i (List.mem_append_right _ h'))
  | fn f cs => exact VR2_gr (lend_gr hH ids) hv
  | tup cs => trivial
  | _ => refine VR0_2 (giveV_ok (g := g) ?_ hH hi); exact hv
theorem normH_ok {back : List Bk} {ids : List Nat} {H' : Hp} (h : normH back ids H = some H') (hH : HR B F w g H) (hB : Bs B w) : ∃ F' g', Gr B F g w F' g' w ∧ HR B F' w g' H' := by
  unfold normH at h
  split at h
  · rename_i ts' H1 hall hact
    cases h
    have hs : St B F g w H (ids.map fun i => .ptr i 0) { tmps := (ids.map fun i => Value.pointer (some ⟨(g.getD i ⟨⟨0, 0, none⟩, 0, 0, 0⟩).ad.block, 0, none⟩)).toArray, defers := [] } := by
      refine ⟨?_, hH, hB, rfl⟩
      show All2 _ _ (ids.map _)
      have hi : ∀ i ∈ ids, i < g.length := fun i hi => by
        have := List.all_eq_true.1 hall i hi
        rw [hH.len]
        exact Nat.le_of_ble_eq_true this
      clear hall hact
      induction ids with
      | nil => exact .nil
      | cons i r ih =>
        refine .cons ?_ (ih fun j hj => hi j (by simp [hj]))
        have hl := hi i (by simp)
        exact ⟨g[i], List.getElem?_eq_getElem hl, by simp [List.getD, List.getElem?_eq_getElem hl]⟩
    obtain ⟨F', g', h1, h2⟩ := acts_ok _ _ _ _ _ _ _ hact hs
    exact ⟨F', g', h1, h2.heap⟩
  · cases h
theorem itemsOk_len : ∀ {ids : List Nat} {back : List Bk}, itemsOk H ids back = true → ids.length = back.length
  | [], [], _ => rfl
  | i :: r, b :: bs, h => by
    simp only [itemsOk, Bool.and_eq_true] at h
    simp [itemsOk_len h.2]
  | [], _ :: _, h => by cases h
  | _ :: _, [], h => by cases h
theorem addNew_len0 : ∀ (l acc : List Nat), (addNew acc l).length ≤ acc.length + l.length
  | [], acc => by simp [addNew]
  | i :: l, acc => by
    simp only [addNew]
    refine Nat.le_trans (addNew_len0 l _) ?_
    split <;> simp <;> omega
theorem addNew_nodup0 : ∀ (l acc : List Nat), (addNew acc l).length = acc.length + l.length → acc.Nodup → (acc ++ l).Nodup
  | [], acc, _, ha => by simpa using ha
  | i :: r, acc, h, ha => by
    simp only [addNew] at h
    cases hc : acc.contains i with
    | true =>
      rw [hc] at h
      have := addNew_len0 r acc
      simp only [List.length_cons] at h
      omega
    | false =>
      rw [hc] at h
      simp only [] at h
      have hni : i ∉ acc := by simpa using hc
      have ha' : (acc ++ [i]).Nodup := by
        rw [List.nodup_append]
        exact ⟨ha, by simp, fun a ha b hb => by simp at hb; subst hb; rintro rfl; exact hni ha⟩
      have := addNew_nodup0 r (acc ++ [i]) (by simp only [List.length_append, List.length_cons, List.length_nil] at h ⊢; omega) ha'
      simpa using this
theorem nodupB_iff {l : List Nat} (h : nodupB l = true) : l.Nodup := by
  have := addNew_nodup0 l [] (by simpa using (Nat.eq_of_beq_eq_true h).symm) (by simp)
  simpa using this
theorem takeJob_ok {ptr : Bool} {back : List Bk} {args av : List AV} {us : List Value} {Hc H' : Hp} {π : List Nat} (h : takeJob ptr back args H = some (av, Hc, H', π)) (hH : HR B F w g H) (hB : Bs B w) (ha : All2 (VR2 F w g) args us) :
    ∃ F' g', Gr B F g w F' g' w ∧ HR B F' w g' H' ∧ π.Nodup ∧ back.length ≤ π.length ∧ All2 (VR2 F' w (reG g' π)) av us ∧ Hc = pickH H' π := by
  unfold takeJob at h
  have hpre : ∃ F1, Gr B F g w F1 g w ∧ HR B F1 w g (preH ptr args H) ∧ All2 (VR2 F1 w g) (preArgs ptr args H) us := by
    cases ptr with
    | false => exact ⟨F, Gr.refl .., hH, ha⟩
    | true =>
      refine ⟨_, lend_gr hH (args.flatMap fun v => ownIds (cellsOf v)), lend_HR hH _, ?_⟩
      have hids : ∀ v ∈ args, ∀ i ∈ ownIds (cellsOf v), i ∈ args.flatMap fun v => ownIds (cellsOf v) := fun v hv i hi => List.mem_flatMap.2 ⟨v, hv, hi⟩
      simp only [preArgs]
      generalize (args.flatMap fun v => ownIds (cellsOf v)) = ids at hids
      clear h
      induction ha with
      | nil => exact .nil
      | cons h1 t ih => exact .cons (giveArg_ok h1 hH (hids _ (by simp))) (ih fun v hv => hids v (by simp [hv]))
  obtain ⟨F1, g1, h1, ha1⟩ := hpre
  split at h
  · rename_i H2 hn
    split at h
    · rename_i hok
      cases h
      obtain ⟨F2, g2, k1, k2⟩ := normH_ok hn h1 hB
      have hok' := hok
      unfold takeOk at hok'
      simp only [Bool.and_eq_true] at hok'
      have hnd := nodupB_iff hok'.2.2
      refine ⟨F2, g2, g1.trans k1, k2, hnd, ?_, ?_, rfl⟩
      · cases hb : back with
        | nil => exact Nat.zero_le _
        | cons a b =>
          have := hok'.1
          rw [hb] at this
          have h5 := itemsOk_len this
          rw [List.length_append, h5]
          omega
      · have ha2 := ha1.mono fun _ _ => VR2_gr k1
        generalize takeIds (preArgs ptr args H) ++ innerIds H' (takeIds (preArgs ptr args H)) back = π
        generalize preArgs ptr args H = l1 at ha2
        clear ha1 hok hok' hnd hn h1 g1 k1 ha
        induction ha2 with
        | nil => exact .nil
        | cons h1 t ih => exact .cons (takeArg_ok k2 h1) ih
    · cases h
  · cases h
end
end Go.Proofs.YtmojilihllhadaaGreatDoor.Ev
/- The operations of a region, one behind the other. -/
namespace Go.Proofs.YtmojilihllhadaaGreatDoor.Ev
open Go Go.RowKit
set_option linter.unusedVariables false
set_option linter.unusedSimpArgs false
section
variable {α : Type} {P : Program} {E : Env} {B : Nat → Prop} {F : Fz} {g : List GE} {w : World} {H : Hp}
theorem asSl_cast {t : Ty} {l : List t.den} : castL? t t l = some l := by simp [castL?]
theorem lendV_ok {v : AV} {u : Value} {ids : List Nat} (hv : VR0 F w g v u) (hH : HR B F w g H) (hi : ∀ i ∈ ownIds [v], i ∈ ids) : VR0 (lendF F g H ids) w [] (lendV H v) u := by
  have hg : Gr B F [] w (lendF F g H ids) [] w := ⟨(lend_gr hH ids).up, (lend_gr hH ids).new, fun _ _ _ _ h => h, fun _ _ h => h, Sam.refl _ _⟩
  cases v with
  | all id sz n =>
    simp only [lendV]
    split
    · rename_i t l s hb
      have := asSl_ok (t := t) (l := l) (by simp [asSl, hb, asSl_cast]) hv hH
      exact CR_lend hi this
    · trivial
  | own id sz off n =>
    simp only [lendV]
    split
    · rename_i t l s hb
      have := asSl_ok (t := t) (l := (l.drop off).take n) (by simp [asSl, hb, asSl_cast]) hv hH
      exact CR_lend hi this
    · trivial
  | ptr => trivial
  | eptr => trivial
  | aptr => trivial
  | slf => trivial
  | mp => trivial
  | sl t l => exact CR_gr hg hv
  | rptr t l i j => exact VR0_gr (x := .rptr t l i j) hg hv
  | _ => exact hv
theorem capV_ok {v : AV} {u : Value} {ids : List Nat} (hv : VR0 F w g v u) (hH : HR B F w g H) : VR0 (lendF F g H ids) w [] (capV v) u := by
  have hg : Gr B F [] w (lendF F g H ids) [] w := ⟨(lend_gr hH ids).up, (lend_gr hH ids).new, fun _ _ _ _ h => h, fun _ _ h => h, Sam.refl _ _⟩
  cases v with
  | all => trivial
  | own => trivial
  | ptr => trivial
  | eptr => trivial
  | aptr => trivial
  | slf => trivial
  | mp => trivial
  | sl t l => exact CR_gr hg hv
  | rptr t l i j => exact VR0_gr (x := .rptr t l i j) hg hv
  | _ => exact hv
theorem lendArg_ok {v : AV} {u : Value} {ids : List Nat} (hv : VR2 F w g v u) (hH : HR B F w g H) (hi : ∀ i ∈ ownIds (cellsOf v), i ∈ ids) : VR2 (lendF F g H ids) w [] (lendArg H v) u := by
  cases v with
  | agg cs =>
    obtain ⟨vs, rfl, hc⟩ := hv
    refine ⟨vs, rfl, ?_⟩
    replace hi : ∀ i ∈ ownIds cs, i ∈ ids := hi
    generalize vs.toList = m at hc
    induction hc with
    | nil => exact .nil
    | cons h t ih =>
      rename_i a b l m'
      rw [ownIds_cons] at hi
      exact .cons (lendV_ok h hH fun i h' => hi i (List.mem_append_left _ h')) (ih fun i h' => hi i (List.mem_append_right _ h'))
  | fn f cs =>
    obtain ⟨vs, rfl, hc⟩ := hv
    refine ⟨vs, rfl, ?_⟩
    clear hi
    generalize vs.toList = m at hc
    induction hc with
    | nil => exact .nil
    | cons h t ih => exact .cons (capV_ok h hH) ih
  | tup cs => trivial
  | _ => refine VR0_2 (lendV_ok (g := g) ?_ hH hi); exact hv
def xtFn : XT → Array Value → Sem Value
  | .count => Extern.BytealgCount.count
  | .indexByte => Extern.BytealgIndexByte.indexByte
  | .compare => Extern.BytealgCompare.compare
  | _ => fun _ => stuck ""
def XtSem (P : Program) (E : Env) (f : FuncId) (x : XT) : Prop := ∀ args H σ H' B F g w (vs : Array Value), extK x args H (fun v H => some (v, H)) = some (σ, H') → All2 (VR2 F w g) args vs.toList → HR B F w g H → Bs B w → GlobOk E B F w →
  Calls P f vs w fun e w' => ∃ v F' g', e = .returned v ∧ VR2 F' w' g' σ v ∧ Gr B F g w F' g' w' ∧ HR B F' w' g' H'
structure XtOne (P : Program) (E : Env) (f : FuncId) (x : XT) : Prop where
  fn : x.model = true → ∃ fn, P.funcs[f]? = some fn ∧ fn.body.isNone = true ∧ (fn.name == "runtime.NumGoroutine") = false ∧ Extern.findNext fn = none ∧ Extern.find fn = some (xtFn x)
  by_hand : x.model = false → (∃ fn, P.funcs[f]? = some fn ∧ fn.body.isSome = true ∧ (fn.name == "runtime.NumGoroutine") = false) ∧ XtSem P E f x
theorem cond_bindX {α β : Type} {c : Bool} {A : Option α} {f : α → Option β} : (cond c A none).bind f = cond c (A.bind f) none := by cases c <;> rfl
theorem extK_nat {β : Type} {x : XT} {args : List AV} {K : AV → Hp → Option α} {f : α → Option β} : (extK x args H K).bind f = extK x args H (fun v H => (K v H).bind f) := by
  unfold extK
  split
  · rfl
  · rfl
  · rfl
  · split
    · unfold insertK
      split
      · split
        · split
          · exact cond_bindX
          · rfl
        · rfl
      · rfl
    · rfl
  · split
    · unfold sortK
      split
      · split
        · split
          · exact cond_bindX
          · rfl
        · rfl
      · rfl
    · rfl
  · unfold libK
    split
    · rw [cond_bindX, cond_bindX]
    · split
      · exact cond_bindX
      · split
        · exact cond_bindX
        · rfl
    · exact cond_bindX
    · rfl
  · unfold chkK
    split
    · split
      · split <;> rfl
      · rfl
    · rfl
  · split
    · exact cond_bindX
    · rfl
  · split
    · exact cond_bindX
    · rfl
  · unfold sortSK
    split
    · split
      · split
        · exact cond_bindX
        · rfl
      · rfl
    · rfl
  · rfl
theorem extK_S {x : XT} {args : List AV} {K : AV → Hp → Option α} {r : α} (h : extK x args H K = some r) : ∃ σ H', extK x args H (fun v H => some (v, H)) = some (σ, H') ∧ K σ H' = some r := by
  have := extK_nat (H := H) (x := x) (args := args) (K := fun v H => some (v, H)) (f := fun p => K p.1 p.2)
  simp only [Option.bind_some] at this
  rw [← this] at h
  cases hh : extK x args H (fun v H => some (v, H)) with
  | none => rw [hh] at h; cases h
  | some p => rw [hh] at h; exact ⟨p.1, p.2, rfl, h⟩
def FiOk (P : Program) (E : Env) : Prop := (∀ f fi, E.fi f = some fi → P.funcs[f]? = some fi.fn ∧ fi.fn.body.isSome = true ∧ (fi.fn.name == "runtime.NumGoroutine") = false) ∧
  ∀ f x, E.xt f = some x → XtOne P E f x
theorem extK_ok {x : XT} {args : List AV} {vs : List Value} {K : AV → Hp → Option α} {r : α} (hm : x.model = true) (h : extK x args H K = some r) (ha : All2 (VR2 F w g) args vs) :
    ∃ σ v, K σ H = some r ∧ (xtFn x vs.toArray).run P w = .ok v w ∧ VR2 F w g σ v := by
  unfold extK at h
  split at h
  · cases ha with
    | cons h1 ha =>
      cases ha with
      | cons h2 ha =>
        cases ha
        have h1 : _ = Value.string _ := h1
        have h2 : _ = Value.int _ _ := h2
        subst h1 h2
        refine ⟨_, _, h, ?_, rfl⟩
        simp only [xtFn]
        exact Go.Lib.run_countString _ _ w
  · cases ha with
    | cons h1 ha =>
      cases ha with
      | cons h2 ha =>
        cases ha
        have h1 : _ = Value.string _ := h1
        have h2 : _ = Value.int _ _ := h2
        subst h1 h2
        refine ⟨_, _, h, ?_, rfl⟩
        simp only [xtFn]
        exact Go.Lib.run_indexByteString _ _ w
  · cases ha with
    | cons h1 ha =>
      cases ha with
      | cons h2 ha =>
        cases ha
        have h1 : _ = Value.string _ := h1
        have h2 : _ = Value.string _ := h2
        subst h1 h2
        refine ⟨_, _, h, ?_, rfl⟩
        simp only [xtFn]
        exact Go.Lib.run_compareString _ _ w
  · cases hm
  · cases hm
  · cases hm
  · cases hm
  · cases hm
  · cases hm
  · cases hm
  · cases h
theorem run_ext {o : Oper} {c : Call} {f : Operand} {ρc : Operand → Value} {k : FuncId} {x : XT} {v : Value} (hx : XtOne P E k x) (hm : x.model = true) (ho : o.op = .call c) (hc : c.callee = .value f) (hf : ρc f = .func (.func k) #[] #[])
    (hr : (xtFn x (c.args.map ρc)).run P w = .ok v w) : (execOp ρc o).run P w = .ok (.value v) w := by
  obtain ⟨fn, h1, h2, h3, h4, h5⟩ := hx.fn hm
  have hm : ∀ (m : Mark) (k : Sem Next), (do mark m; k : Sem Next).run P w = k.run P w := fun _ _ => rfl
  simp only [execOp, ho, resolve, hc, hf, Deferred.ofValue, Sem.run_bind, Sem.run_pure, Result.andThen, invoke, callFunc, program, Sem.run, h1, h2, h3, h4, h5, Bool.false_eq_true, if_false, if_true, Array.empty_append, Array.append_empty, mark, hr]
def CallOk (P : Program) (E : Env) (call : (g : FuncId) → List AV → Hp → Option (Ret E g)) : Prop :=
  ∀ f fi args H x B F g w (vs : Array Value), E.fi f = some fi → call f args H = some x → All2 (VR2 F w g) args vs.toList → HR B F w g H → Bs B w → GlobOk E B F w →
    Calls P f vs w fun e w' => ∃ v, e = .returned v ∧ RetOk B fi.own (rtsOf E f) (backOf E f) F g w w' x v
theorem HR_nil {F : Fz} {w : World} (hF : ∀ b o, F b o → b < w.heap.size) : HR (Old w) F w [] [] :=
  ⟨rfl, fun i b e hb => by simp at hb, fun i b e hb => by simp at hb, fun i j b c e f hb => by simp at hb, fun k o hk => ⟨hF k o hk, fun i b e hb => by simp at hb⟩⟩
def InlOk (P : Program) (E : Env) (B : Nat → Prop) (inl : FI → List AV → Hp → Fin α → Option α) : Prop :=
  ∀ f fi args H (K : Fin α) x F g w (vs : Array Value), E.fi f = some fi → inl fi args H K = some x → All2 (VR2 F w g) args vs.toList → HR B F w g H → Bs B w → GlobOk E B F w →
    Calls P f vs w fun e w' => ∃ v σ H' F' g', e = .returned v ∧ K σ H' = some x ∧ VR2 F' w' g' σ v ∧ Gr B F g w F' g' w' ∧ HR B F' w' g' H'
theorem run_call {o : Oper} {c : Call} {f : Operand} {ρc : Operand → Value} {k : FuncId} {caps : Array Value} {fn : Func} (ho : o.op = .call c) (hc : c.callee = .value f) (hf : ρc f = .func (.func k) #[] caps)
    (h1 : P.funcs[k]? = some fn) (h2 : fn.body.isSome = true) (h3 : (fn.name == "runtime.NumGoroutine") = false) : (execOp ρc o).run P w = .ok (.enter k (c.args.map ρc ++ caps)) w := by
  have hb : fn.body.isNone = false := by cases h : fn.body <;> simp_all
  simp only [execOp, ho, resolve, hc, hf, Deferred.ofValue, Sem.run_bind, Sem.run_pure, Result.andThen, invoke, callFunc, program, Sem.run, h1, h3, hb, Bool.false_eq_true, if_false, Array.empty_append]
theorem run_builtin {o : Oper} {c : Call} {b : Builtin} {ρc : Operand → Value} (ho : o.op = .call c) (hc : c.callee = .builtin b) :
    (execOp ρc o).run P w = (builtin b c.argTypes o.type (c.args.map fun | .const _ => true | _ => false) (c.args.map ρc)).run P w := by
  simp only [execOp, ho, resolve, hc, Sem.run_bind, Sem.run_pure, Result.andThen, invoke]
  rfl
theorem args_ok {ts : List AV} {a : Act} (hs : St B F g w H ts a) (hg : GlobOk E B F w) : ∀ l : List Operand, All2 (VR2 F w g) (l.map (opnd E ts)) (l.map a.eval)
  | [] => .nil
  | y :: l => .cons (opnd_ok hs hg y) (args_ok hs hg l)
theorem guard_ok {ops : Array Oper} {ts : List AV} {a : Act} {o : Oper} {yes no : Option α} {x : α} (h : guardOf ops ts o yes no = some x) (hs : St B F g w H ts a) :
    (yes = some x ∧ Region.wanted o (yielded ops a.tmps) = true) ∨ (no = some x ∧ Region.wanted o (yielded ops a.tmps) = false) := by
  unfold guardOf at h
  split at h
  · rename_i hg
    exact .inl ⟨h, by simp [Region.wanted, hg]⟩
  · rename_i j want hg
    split at h
    · rename_i d hd
      have hget : ∀ v, ts.getD d .top = v → v ≠ .top → ∃ u, a.tmps[d]? = some u ∧ VR2 F w g v u := by
        intro v hv hne
        cases ht : ts[d]? with
        | none => simp [List.getD, ht] at hv; exact absurd hv.symm hne
        | some y =>
          simp [List.getD, ht] at hv
          subst hv
          obtain ⟨u, hu, hy⟩ := hs.tmps.get d y ht
          exact ⟨u, by simpa using hu, hy⟩
      split at h
      · rename_i b hb
        obtain ⟨u, hu, hy⟩ := hget _ hb (by simp)
        have hy : u = .bool b := hy
        subst hy
        have hyi : yielded ops a.tmps j = some b := by simp [yielded, hd, hu]
        cases hbw : (b == want) with
        | true =>
          rw [hbw] at h
          exact .inl ⟨h, by simp only [Region.wanted, hg, hyi]; simpa using hbw⟩
        | false =>
          rw [hbw] at h
          exact .inr ⟨h, by simp only [Region.wanted, hg, hyi]; simpa using hbw⟩
      · rename_i z hb
        obtain ⟨u, hu, hy⟩ := hget _ hb (by simp)
        have hy : u = .tuple z := hy
        subst hy
        have hyi : yielded ops a.tmps j = none := by simp [yielded, hd, hu]
        exact .inr ⟨h, by simp [Region.wanted, hg, hyi]⟩
      · cases h
    · cases h
theorem guardS_eq {ops : Array Oper} {ts : List AV} {o : Oper} {yes no : List AV → Option α} : guardS ops ts o yes no = guardOf ops ts o (yes ts) (no ts) := by
  unfold guardS guardOf
  split
  · rfl
  · rename_i j want _
    split
    · rename_i d _
      split
      · rename_i b hb
        have hs : ts.set d (.bool b) = ts := by
          apply List.ext_getElem?
          intro k
          by_cases hk : d = k
          · subst hk
            cases h : ts[d]? with
            | none => simp [List.getD, h] at hb
            | some y =>
              simp [List.getD, h] at hb
              subst hb
              rw [List.getElem?_set]
              have := (List.getElem?_eq_some_iff.1 h).1
              simp [this]
          · rw [List.getElem?_set_ne hk]
        cases b <;> cases want <;> simp only [beq_self_eq_true, cond_true, cond_false, Bool.not_true, Bool.not_false, hs] <;> rfl
      · rfl
      · rfl
    · rfl
theorem put_getD {ts : List AV} {dd : Option Tmp} {v : AV} {s : Nat} (h : dd ≠ some s) : (put ts dd v).getD s .top = ts.getD s .top := by
  cases dd with
  | none => rfl
  | some d =>
    simp only [put, List.getD]
    rw [List.getElem?_set_ne fun e => h (by rw [e])]
theorem aput_get {a : Act} {dd : Option Tmp} {v : Value} {s : Nat} (h : dd ≠ some s) : (a.put dd v).tmps[s]? = a.tmps[s]? := by
  cases dd with
  | none => rfl
  | some d =>
    simp only [Act.put]
    rw [Array.getElem?_setIfInBounds_ne fun e => h (by rw [e])]
theorem okB_field {id off : Nat} {v σ : AV} (h : okB id v = true) (k : fieldPtr off v = some σ) : okB id σ = true := by
  cases v with
  | ptr i j => cases k; exact h
  | eptr i j l => cases k; exact h
  | aptr i j l => cases k
  | top => cases k
  | raw u => cases k
  | _ => cases h
theorem okR_field {off : Nat} {v σ : AV} (h : okR v = true) (k : fieldPtr off v = some σ) : okR σ = true := by
  cases v with
  | rptr t l i j => cases k; rfl
  | sl t l => cases k
  | emp => cases k
  | top => cases k
  | raw u => cases k
  | _ => cases h
theorem idxK_fa {p : AV → Prop} {D : ∀ v, Decidable (p v)} {sz : Nat} {x : AV} {i : Int} {K : AV → Option α} {r : α} (hp : (∀ id, okB id x = false) → ∀ v, (okR x = true → okR v = true) → p v) (h : idxK sz x i K = some r) :
    idxK sz x i (fun v => @ite _ (p v) (D v) (K v) none) = some r := by
  unfold idxK at h ⊢
  cases x with
  | sl t l =>
    have hq : ∀ v, (okR (.sl t l) = true → okR v = true) → p v := hp fun _ => rfl
    have hq' : p (.rptr t l i.toNat 0) := hq _ fun _ => rfl
    simp only [if_pos hq']
    exact h
  | all id s n =>
    have hq' : ∀ v, p v := fun v => hp (fun _ => rfl) v fun e => by cases e
    simp only [if_pos (hq' _)]
    exact h
  | own id s o n =>
    have hq' : ∀ v, p v := fun v => hp (fun _ => rfl) v fun e => by cases e
    simp only [if_pos (hq' _)]
    exact h
  | _ => cases h
theorem idxA_fa {p : AV → Prop} {D : ∀ v, Decidable (p v)} {n sz : Nat} {x : AV} {i : Int} {K : AV → Option α} {r : α} (hp : ∀ v, (∀ id, okB id x = true → okB id v = true) → (okR x = true → okR v = true) → p v) (h : idxA n sz x i K = some r) :
    idxA n sz x i (fun v => @ite _ (p v) (D v) (K v) none) = some r := by
  unfold idxA at h ⊢
  cases x with
  | aptr id s m =>
    have hq : p (.eptr id i.toNat 0) := hp _ (fun _ h => h) fun e => by cases e
    simp only [if_pos hq]
    exact h
  | _ => cases h
theorem opsK_one (hE : ∀ t, TiOk P E t) (hfi : FiOk P E) {call : (g : FuncId) → List AV → Hp → Option (Ret E g)} (hcall : CallOk P E call) {inl : FI → List AV → Hp → Fin α → Option α} (hinl : InlOk P E B inl)
    {ops : Array Oper} {K : List AV → Hp → Option α} {x : α} {Post : Act → World → Prop} {Q : Exit → Act → World → Prop} {i : Nat} {r : List Nat} {ts : List AV} {a : Act}
    (h : opsK E call inl ops (i :: r) ts H K = some x) (hs : St B F g w H ts a) (hg : GlobOk E B F w)
    (hK : ∀ ts' H' a' w' F' g', opsK E call inl ops r ts' H' K = some x → St B F' g' w' H' ts' a' → GlobOk E B F' w' → Gr B F g w F' g' w' →
      (∀ s, (∀ o, ops[i]? = some o → o.dst ≠ some s) → ts'.getD s .top = ts.getD s .top ∧ a'.tmps[s]? = a.tmps[s]?) →
      (∀ o, ops[i]? = some o → basedOn o.op ≠ none → ∃ σ, ts' = put ts o.dst σ ∧ FaOk E ts o.op σ) → Post a' w') :
    wpOp P ops Q i Post a w := by
    unfold wpOp
    simp only [opsK, guardS_eq] at h
    split at h
    · rename_i ho
      simp only [ho]
      exact hK ts H a w F g h hs hg (Gr.refl ..) (fun _ _ => ⟨rfl, rfl⟩) fun o e => by rw [ho] at e; cases e
    · rename_i o ho
      simp only [ho]
      have hnext : ∀ {σ : AV} {H' : Hp} {v : Value} {w' : World} {F' : Fz} {g' : List GE}, opsK E call inl ops r (put ts o.dst σ) H' K = some x → VR2 F' w' g' σ v → Gr B F g w F' g' w' → HR B F' w' g' H' → FaOk E ts o.op σ →
          Post (a.put o.dst v) w' := fun h1 h2 h3 h4 h5 => hK _ _ _ _ _ _ h1 (put_ok hs h3 h4 h2) (hg.gr h3) h3 (fun s hs' => ⟨put_getD (hs' o ho), aput_get (hs' o ho)⟩) fun o' e1 e2 => by
            rw [ho] at e1; cases e1
            exact ⟨_, rfl, h5⟩
      rcases guard_ok h hs with ⟨h, hw⟩ | ⟨h, hw⟩
      · rw [if_pos hw]
        refine .inl ?_
        unfold Oper.wp
        have hop : ∀ {r' : Result Next} {Q' : AV → Hp → Prop}, r' = (execOp a.eval o).run P w → (∀ σ H', Q' σ H' → opsK E call inl ops r (put ts o.dst σ) H' K = some x) → (∀ σ H', Q' σ H' → FaOk E ts o.op σ) → OpOk B F g w r' Q' →
            Oper.upon P o a Post Q ((execOp a.eval o).run P w) := by
          rintro r' Q' rfl hQ hQ2 ⟨σ, H', v, w', F', g', k1, k2, k3, k4, k5⟩
          rcases k2 with k2 | ⟨k2, rfl⟩
          · rw [k2]; exact hnext (hQ _ _ k1) k3 k4 k5 (hQ2 _ _ k1)
          · rw [k2]; exact hnext (hQ _ _ k1) k3 k4 k5 (hQ2 _ _ k1)
        cases hoo : o.op with
        | call c =>
          simp only [hoo] at h
          cases hcc : c.callee with
          | builtin b =>
            simp only [hcc] at h
            have := builtinK_ok (ty := o.type) (cs := c.args.map fun | .const _ => true | _ => false) hE h (args_ok (E := E) hs hg c.args.toList) hs.heap hs.base
            rw [show (c.args.toList.map a.eval).toArray = c.args.map a.eval by rw [← Array.toList_map, Array.toArray_toList]] at this
            exact hop (run_builtin hoo hcc).symm (fun _ _ h => h) (fun _ _ _ y e => by rw [hoo] at e; cases e) this
          | value f =>
            simp only [hcc] at h
            split at h
            · rename_i k caps hfv
              have hfo := opnd_ok hs hg f
              rw [hfv] at hfo
              obtain ⟨vcaps, hfe, hcaps⟩ := hfo
              split at h
              · rename_i gi hgi
                obtain ⟨f1, f2, f3⟩ := hfi.1 k gi hgi
                rw [run_call hoo hcc hfe f1 f2 f3]
                show Calls P k _ w _
                have hargs := args_ok (E := E) hs hg c.args.toList
                split at h
                · -- taken in
                  have hall : All2 (VR2 F w g) (c.args.toList.map (opnd E ts) ++ caps) (c.args.map a.eval ++ vcaps).toList := by
                    simp only [Array.toList_append, Array.toList_map]
                    exact hargs.append (hcaps.mono fun _ _ => VR0_2)
                  refine (hinl k gi _ H _ x F g w _ hgi h hall hs.heap hs.base hg).mono ?_
                  rintro e w' ⟨v, σ, H', F', g', rfl, k1, k2, k3, k4⟩
                  exact hnext k1 k2 k3 k4 fun y e => by rw [hoo] at e; cases e
                · have hids : ∀ v ∈ c.args.toList.map (opnd E ts), ∀ i ∈ ownIds (cellsOf v), i ∈ (c.args.toList.map (opnd E ts)).flatMap fun v => ownIds (cellsOf v) := fun v hv i hi => List.mem_flatMap.2 ⟨v, hv, hi⟩
                  split at h
                  · split at h
                    · rename_i hcond
                      simp only [Bool.and_eq_true] at hcond
                      cases hbind : call k ((c.args.toList.map (opnd E ts)).map (lendArg H)) [] with
                      | none => rw [hbind] at h; cases h
                      | some y =>
                        rw [hbind] at h
                        have hv0 : vcaps = #[] := by
                          cases hh : vcaps.toList with
                          | nil => exact Array.toList_eq_nil_iff.1 hh
                          | cons p q => rw [hh] at hcaps; cases hcaps
                        have hall : All2 (VR2 (lendF F g H ((c.args.toList.map (opnd E ts)).flatMap fun v => ownIds (cellsOf v))) w []) ((c.args.toList.map (opnd E ts)).map (lendArg H)) (c.args.map a.eval ++ vcaps).toList := by
                          subst hv0
                          simp only [Array.append_empty, Array.toList_map]
                          generalize c.args.toList.map (opnd E ts) = l1 at hargs hids
                          generalize c.args.toList.map a.eval = l2 at hargs
                          generalize hidd : (l1.flatMap fun v => ownIds (cellsOf v)) = ids at hids
                          clear hidd
                          induction hargs with
                          | nil => exact .nil
                          | cons h1 t ih => exact .cons (lendArg_ok h1 hs.heap (hids _ (by simp))) (ih fun v hv => hids v (by simp [hv]))
                        have hH1 := lend_HR hs.heap ((c.args.toList.map (opnd E ts)).flatMap fun v => ownIds (cellsOf v))
                        refine (hcall k gi _ [] y (Old w) _ [] w _ hgi hbind hall (HR_nil fun b o hb => (hH1.frz b o hb).1) (Old.base w) ((hg.gr (lend_gr hs.heap _)).mono hs.base)).mono ?_
                        rintro e w' ⟨v, rfl, hret⟩
                        obtain ⟨F', g', k1, k2, k3⟩ := call_back hs.heap hs.base (hret.zero hcond.2)
                        exact hnext h k3 k1 k2 fun y e => by rw [hoo] at e; cases e
                    · cases h
                  · split at h
                    · rename_i av Hc H' π hjob
                      obtain ⟨F1, g1, k1, k2, hnd, hbl, hav, rfl⟩ := takeJob_ok hjob hs.heap hs.base hargs
                      cases hbind : call k av (pickH H' π) with
                      | none => rw [hbind] at h; cases h
                      | some y =>
                        rw [hbind] at h
                        have hv0 : vcaps = #[] := by
                          cases hh : vcaps.toList with
                          | nil => exact Array.toList_eq_nil_iff.1 hh
                          | cons p q => rw [hh] at hcaps; cases hcaps
                        have hall : All2 (VR2 F1 w (reG g1 π)) av (c.args.map a.eval ++ vcaps).toList := by
                          subst hv0
                          simp only [Array.append_empty, Array.toList_map]
                          exact hav
                        refine (hcall k gi _ _ y _ _ _ w _ hgi hbind hall (take_HR k2 hnd) (KK_base k2 hs.base _) ((hg.gr k1).mono fun _ h => .inl h)).mono ?_
                        rintro e w' ⟨v, rfl, hret⟩
                        obtain ⟨F', g', q1, q2, q3⟩ := call_backT k2 hnd hbl hret
                        exact hnext h q3 (k1.trans q1) q2 fun y e => by rw [hoo] at e; cases e
                    · cases h
              · split at h
                · rename_i x hx
                  have hv0 : vcaps = #[] := by
                    cases hh : vcaps.toList with
                    | nil => exact Array.toList_eq_nil_iff.1 hh
                    | cons p q => rw [hh] at hcaps; cases hcaps
                  subst hv0
                  cases hm : x.model with
                  | true =>
                    obtain ⟨σ, v, q1, q2, q3⟩ := extK_ok (P := P) hm h (args_ok (E := E) hs hg c.args.toList)
                    rw [show (c.args.toList.map a.eval).toArray = c.args.map a.eval by rw [← Array.toList_map, Array.toArray_toList]] at q2
                    rw [run_ext (hfi.2 k x hx) hm hoo hcc hfe q2]
                    exact hnext q1 q3 (Gr.refl ..) hs.heap fun y e => by rw [hoo] at e; cases e
                  | false =>
                    obtain ⟨⟨fn, f1, f2, f3⟩, hsem⟩ := (hfi.2 k x hx).by_hand hm
                    obtain ⟨σ, H', q1, q2⟩ := extK_S h
                    rw [run_call hoo hcc hfe f1 f2 f3]
                    show Calls P k _ w _
                    have hargs := args_ok (E := E) hs hg c.args.toList
                    have hall : All2 (VR2 F w g) (c.args.toList.map (opnd E ts)) (c.args.map a.eval ++ #[]).toList := by
                      simp only [Array.append_empty, Array.toList_map]
                      exact hargs
                    refine (hsem _ _ _ _ B F g w _ q1 hall hs.heap hs.base hg).mono ?_
                    rintro e w' ⟨v, F', g', rfl, k2, k3, k4⟩
                    exact hnext q2 k2 k3 k4 fun y e => by rw [hoo] at e; cases e
                · cases h
            · cases h
          | invoke r m => simp only [hcc] at h; cases h
        | fieldAddr s y f =>
          simp only [hoo] at h
          have h2 : opK E (.fieldAddr s y f) (opnd E ts) H (fun v H' => open Classical in if FaOk E ts (.fieldAddr s y f) v then opsK E call inl ops r (put ts o.dst v) H' K else none) = some x := by
            simp only [opK] at h ⊢
            split at h
            · rename_i off size ag hfl
              split at h
              · rename_i p hb hp
                have hfa : FaOk E ts (.fieldAddr s y f) p := fun y' e => by cases e; exact ⟨fun id hid => okB_field hid hp, fun hr => okR_field hr hp⟩
                rw [if_pos hfa]
                exact h
              · cases h
            · cases h
          rw [← hoo] at h2
          refine hop rfl (fun σ H' hq => ?_) (fun σ H' hq => ?_) (opK_ok hE h2 (fun y _ => opnd_ok hs hg y) hs.heap hs.base (fun _ => rfl))
          · split at hq
            · exact hq
            · cases hq
          · split at hq
            · rename_i hh; rw [hoo] at hh ⊢; exact hh
            · cases hq
        | indexAddr s y f =>
          simp only [hoo] at h
          have h2 : opK E (.indexAddr s y f) (opnd E ts) H (fun v H' => open Classical in if FaOk E ts (.indexAddr s y f) v then opsK E call inl ops r (put ts o.dst v) H' K else none) = some x := by
            simp only [opK] at h ⊢
            split at h
            · refine idxK_fa (p := fun v => FaOk E ts (.indexAddr s y f) v) (fun hv v hr => ?_) h
              intro y' e
              cases e
              exact ⟨fun id hid => (by rw [hv id] at hid; cases hid), hr⟩
            · refine idxA_fa (p := fun v => FaOk E ts (.indexAddr s y f) v) (fun v hv hr => ?_) h
              intro y' e
              cases e
              exact ⟨hv, hr⟩
            · cases h
          rw [← hoo] at h2
          refine hop rfl (fun σ H' hq => ?_) (fun σ H' hq => ?_) (opK_ok hE h2 (fun y _ => opnd_ok hs hg y) hs.heap hs.base (fun _ => rfl))
          · split at hq
            · exact hq
            · cases hq
          · split at hq
            · rename_i hh; rw [hoo] at hh ⊢; exact hh
            · cases hq
        | move y =>
          simp only [hoo] at h
          have h2 : opK E (.move y) (opnd E ts) H (fun v H' => open Classical in if FaOk E ts (.move y) v then opsK E call inl ops r (put ts o.dst v) H' K else none) = some x := by
            simp only [opK] at h ⊢
            have hfa : FaOk E ts (.move y) (opnd E ts y) := fun y' e => by cases e; exact ⟨fun _ h => h, fun h => h⟩
            rw [if_pos hfa]
            exact h
          rw [← hoo] at h2
          refine hop rfl (fun σ H' hq => ?_) (fun σ H' hq => ?_) (opK_ok hE h2 (fun y _ => opnd_ok hs hg y) hs.heap hs.base (fun _ => rfl))
          · split at hq
            · exact hq
            · cases hq
          · split at hq
            · rename_i hh; rw [hoo] at hh ⊢; exact hh
            · cases hq
        | _ =>
          simp only [hoo] at h
          rw [← hoo] at h
          exact hop rfl (fun _ _ h => h) (fun _ _ _ y e => by rw [hoo] at e; cases e) (opK_ok hE h (fun y _ => opnd_ok hs hg y) hs.heap hs.base (fun _ => rfl))
      · rw [if_neg (by rw [hw]; simp)]
        exact hnext h rfl (Gr.refl ..) hs.heap fun _ _ => ⟨fun _ _ => rfl, fun _ => rfl⟩
theorem opsK_ok (hE : ∀ t, TiOk P E t) (hfi : FiOk P E) {call : (g : FuncId) → List AV → Hp → Option (Ret E g)} (hcall : CallOk P E call) {inl : FI → List AV → Hp → Fin α → Option α} (hinl : InlOk P E B inl)
    {ops : Array Oper} {K : List AV → Hp → Option α} {x : α} {Post : Act → World → Prop} : ∀ (l : List Nat) (ts : List AV) (H : Hp) (a : Act) (w : World) (F : Fz) (g : List GE),
    opsK E call inl ops l ts H K = some x → St B F g w H ts a → GlobOk E B F w →
    (∀ ts' H' a' w' F' g', K ts' H' = some x → St B F' g' w' H' ts' a' → GlobOk E B F' w' → Gr B F g w F' g' w' → Post a' w') →
    wpOps P ops (fun e a w => e = .normal ∧ Post a w) l a w
  | [], ts, H, a, w, F, g, h, hs, hg, hK => ⟨rfl, hK ts H a w F g h hs hg (Gr.refl ..)⟩
  | i :: r, ts, H, a, w, F, g, h, hs, hg, hK => by
    rw [wpOps_cons]
    exact opsK_one hE hfi hcall hinl h hs hg fun ts' H' a' w' F' g' h1 h2 h3 h4 _ _ => opsK_ok hE hfi hcall hinl r ts' H' a' w' F' g' h1 h2 h3
      fun ts'' H'' a'' w'' F'' g'' k1 k2 k3 k4 => hK ts'' H'' a'' w'' F'' g'' k1 k2 k3 (h4.trans k4)
end
end Go.Proofs.YtmojilihllhadaaGreatDoor.Ev
