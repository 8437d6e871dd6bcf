/- The operations that look at memory or make some. -/
import Derived.Test.YtjklgmflillagaaDoorEv6
import Derived.Laws.Cells
import Derived.Laws.CopyRow
namespace Go.Proofs.YtjklgmflillagaaDoor.Ev
open Go Go.RowKit
set_option linter.unusedVariables false
set_option linter.unusedSimpArgs false

section
variable {α : Type} {P : Program} {E : Env} {B : Nat → Prop} {F : Fz} {g : List GE} {w : World} {H : Hp}

theorem nth_get {t : Ty} {l : List t.den} {i : Nat} (h : i < l.length) : l[i]? = some (nth t l i) := by
  simp [nth, List.getD, List.getElem?_eq_getElem h]

theorem take_drop_cells {R : AV → Value → Prop} {cs : List AV} {us : List Value} (h : All2 R cs us) {j size : Nat} (hl : j + size ≤ us.length) :
    All2 R ((cs.drop j).take size) ((us.drop j).take size) ∧ ((us.drop j).take size).length = size := by
  refine ⟨(h.drop j).take size, by simp; omega⟩

theorem part_get {us : List Value} {j size k : Nat} {z : Value} (h : ((us.drop j).take size)[k]? = some z) : k < size ∧ us[j + k]? = some z := by
  rw [List.getElem?_take] at h
  split at h
  · rename_i hk; rw [List.getElem?_drop] at h; exact ⟨hk, h⟩
  · cases h

theorem mkVal_ok {agg : Bool} {size : Nat} {cs : List AV} {us : List Value} (h : All2 (VR0 F w g) cs us) (hl : us.length = size) (hs : (agg || size == 1) = true) :
    (agg = true → ∃ cs', mkVal agg cs = .agg cs' ∧ All2 (VR0 F w g) cs' us) ∧ (agg = false → ∃ z, us = [z] ∧ VR0 F w g (mkVal agg cs) z) := by
  refine ⟨fun ha => ?_, fun ha => ?_⟩
  · subst ha; exact ⟨cs, rfl, h⟩
  · subst ha
    have h1 : size = 1 := by simpa using hs
    subst h1
    cases h with
    | nil => cases hl
    | cons h ht =>
      cases ht with
      | nil => exact ⟨_, rfl, h⟩
      | cons => cases hl

theorem loadP_ok {agg : Bool} {size : Nat} {p v : AV} {u : Value} (h : loadP H agg size p = some v) (hp : VR0 F w g p u) (hH : HR B F w g H) :
    ∃ b o us, u = .pointer (some ⟨b, o, none⟩) ∧ us.length = size ∧ (∀ j z, us[j]? = some z → w.cell? ⟨b, o + j, none⟩ = some z) ∧
      (agg = true → ∃ cs, v = .agg cs ∧ All2 (VR0 F w g) cs us) ∧ (agg = false → ∃ z, us = [z] ∧ VR0 F w g v z) := by
  cases p with
  | ptr id i =>
    simp only [loadP] at h
    split at h
    · rename_i cs hb
      split at h
      · rename_i hc
        cases h
        simp only [Bool.and_eq_true] at hc
        obtain ⟨hc1, hc2⟩ := hc
        have hc2 := Nat.le_of_ble_eq_true hc2
        obtain ⟨e, he, rfl⟩ := hp
        obtain ⟨h1, h2, vs, el, h3, h4⟩ := hH.blk id _ e hb he
        have hlen := h4.length
        obtain ⟨ha, hl⟩ := take_drop_cells h4 (j := i) (size := size) (by omega)
        obtain ⟨m1, m2⟩ := mkVal_ok ha hl hc1
        refine ⟨e.ad.block, i, _, rfl, hl, fun j z hz => ?_, m1, m2⟩
        rw [cell_of_block h3, ← Array.getElem?_toList]
        exact (part_get hz).2
      · cases h
    · cases h
  | eptr id i j =>
    simp only [loadP] at h
    split at h
    · rename_i t l s hb
      split at h
      · rename_i hc
        cases h
        simp only [Bool.and_eq_true] at hc
        obtain ⟨hc1, hc2⟩ := hc
        have hc2 := Nat.le_of_ble_eq_true hc2
        obtain ⟨e, he, hi, rfl⟩ := hp
        obtain ⟨h1, h2, _⟩ := hH.blk id _ e hb he
        obtain ⟨hcap, us, ha, hl, hu⟩ := arr_rows hH hb he i _ (nth_get (by omega))
        obtain ⟨hb1, hb2⟩ := take_drop_cells (explode_ok (g := g) t _ us ha) (j := j) (size := size) (by omega)
        obtain ⟨m1, m2⟩ := mkVal_ok hb1 hb2 hc1
        refine ⟨e.ad.block, _, _, rfl, hb2, fun k z hz => ?_, m1, m2⟩
        have := hu (j + k) z (part_get hz).2
        rw [h1]
        rw [show e.ad.off + (i * t.size + j) + k = e.ad.off + (i * t.size + (j + k)) by omega]
        exact this
      · cases h
    · cases h
  | rptr t l i j =>
    simp only [loadP] at h
    split at h
    · rename_i hc
      cases h
      simp only [Bool.and_eq_true] at hc
      obtain ⟨hc1, hc2⟩ := hc
      have hc2 := Nat.le_of_ble_eq_true hc2
      obtain ⟨ad, rfl, hi, hs, hr⟩ := hp
      obtain ⟨ad', he, hs', us, ha, hl, hu⟩ := hr i _ (nth_get hi)
      cases he
      obtain ⟨hb1, hb2⟩ := take_drop_cells (explode_ok (g := g) t _ us ha) (j := j) (size := size) (by omega)
      obtain ⟨m1, m2⟩ := mkVal_ok hb1 hb2 hc1
      refine ⟨ad.block, _, _, rfl, hb2, fun k z hz => ?_, m1, m2⟩
      have := (hu (j + k) z (part_get hz).2).2
      rw [show ad.off + (i * t.size + j) + k = ad.off + (i * t.size + (j + k)) by omega]
      exact this
    · cases h
  | _ => cases h

theorem run_sizeOf {t : TypeId} {i : TypeInfo} (h : P.info? t = some i) : (sizeOf t).run P w = .ok i.size w := by
  simp [sizeOf, typeInfo, program, Sem.run_bind, Sem.run, h, Result.andThen]

theorem loadVar_ok {t : TypeId} {i : TypeInfo} {agg : Bool} {b o : Nat} {us : List Value} {v : AV} (hi : P.info? t = some i) (hs : i.size = us.length) (ha : (isAgg t).run P = fun w => .ok agg w)
    (hc : ∀ j z, us[j]? = some z → w.cell? ⟨b, o + j, none⟩ = some z)
    (h1 : agg = true → ∃ cs, v = .agg cs ∧ All2 (VR0 F w g) cs us) (h2 : agg = false → ∃ z, us = [z] ∧ VR0 F w g v z) :
    ∃ z, (loadVar t ⟨b, o, none⟩).run P w = .ok z w ∧ VR1 F w g v z := by
  cases agg with
  | true =>
    obtain ⟨cs, rfl, hcs⟩ := h1 rfl
    refine ⟨.agg us.toArray, ?_, us.toArray, rfl, by simpa using hcs⟩
    simp only [loadVar, Sem.run_bind, ha, Result.andThen, if_true, run_sizeOf hi, hs]
    rw [run_loadCells_list w ⟨b, o, none⟩ us (fun j z hz => by rw [Addr.add_plain _ rfl]; exact hc j z hz)]
    rfl
  | false =>
    obtain ⟨z, rfl, hz⟩ := h2 rfl
    refine ⟨z, ?_, ?_⟩
    · simp only [loadVar, Sem.run_bind, ha, Result.andThen, Bool.false_eq_true, if_false]
      have := hc 0 z rfl
      simp only [Nat.add_zero] at this
      simp [load, Sem.run, this]
    · cases v <;> first | exact hz | exact hz.elim | (obtain ⟨rfl, rfl⟩ := hz; exact ⟨#[], rfl, .nil⟩)

theorem splice_get {β : Type} {l zs : List β} {o m : Nat} (h : o + zs.length ≤ l.length) :
    (l.take o ++ zs ++ l.drop (o + zs.length))[m]? = if m < o then l[m]? else if m < o + zs.length then zs[m - o]? else l[m]? := by
  have h1 : (l.take o).length = o := by simp; omega
  by_cases ha : m < o
  · rw [if_pos ha, List.append_assoc, List.getElem?_append_left (by omega), List.getElem?_take, if_pos ha]
  · rw [if_neg ha]
    by_cases hb : m < o + zs.length
    · rw [if_pos hb, List.getElem?_append_left (by simp; omega), List.getElem?_append_right (by omega), h1]
    · rw [if_neg hb, List.getElem?_append_right (by simp; omega), List.getElem?_drop]
      congr 1
      simp; omega

theorem ownIds_explode : (t : Ty) → (x : t.den) → ownIds (explode t x) = []
  | .int _, _ => rfl
  | .bool, _ => rfl
  | .str, _ => rfl
  | .unit, _ => rfl
  | .sl _, _ => rfl
  | .st t, x => ownIds_explode t x
  | .pair a b, x => by simp [explode, ownIds_append, ownIds_explode a, ownIds_explode b]
theorem ownIds_sub {a b : List AV} (h : ∀ v ∈ a, v ∈ b) (i : Nat) (hi : i ∈ ownIds a) : i ∈ ownIds b := by
  simp only [ownIds, List.mem_filterMap] at hi ⊢
  obtain ⟨v, hv, h2⟩ := hi
  exact ⟨v, h v hv, h2⟩

theorem lendAll_other : ∀ (ids : List Nat) (H : Hp) (i : Nat), i ∉ ids → (lendAll H ids)[i]? = H[i]?
  | [], _, _, _ => rfl
  | a :: ids, H, i, h => by
    have hn := not_or.1 (fun k => h (List.mem_cons.2 k))
    show (lendAll (lend1 H a) ids)[i]? = _
    rw [lendAll_other ids _ i hn.2]
    have hne : ¬ (a = i) := fun e => hn.1 e.symm
    simp only [lend1, List.getElem?_modify, if_neg hne]
    cases H[i]? <;> rfl

theorem storeP_ok {size : Nat} {p v : AV} {u z : Value} {H' : Hp} {t : TypeId} {i : TypeInfo} (hi : P.info? t = some i) (hs : i.size = size)
    (h : storeP H size v p = some H') (hp : VR0 F w g p u) (hv : VR1 F w g v z) (hH : HR B F w g H) (hB : Bs B w) :
    ∃ a w' F', u = .pointer (some a) ∧ (storeVar t a z).run P w = .ok () w' ∧ Gr B F g w F' g w' ∧ HR B F' w' g H' := by
  have hrun : ∀ (b o : Nat) (cur : Array Value) (el : TypeId), w.heap[b]? = some (.cells cur el (0, 0)) → o + z.cells.toList.length ≤ cur.size → z.cells.toList.length = size →
      (∀ q ∈ z.cells.toList, q.oneCell' = true) → (storeVar t ⟨b, o, none⟩ z).run P w = .ok () (w.setRow b (cur.toList.take o ++ z.cells.toList ++ cur.toList.drop (o + z.cells.toList.length)).toArray) := by
    intro b o cur el hb ho hl hq
    have hsz : ¬ (z.cells.size ≠ i.size) := by rw [hs, ← hl]; simp
    simp only [storeVar, Sem.run_bind, run_sizeOf hi, Result.andThen]
    rw [if_neg hsz]
    have := run_storeCells_at (P := P) b o el z.cells.toList 0 cur w hb (by omega) hq
    simpa using this
  cases p with
  | ptr id j =>
    simp only [storeP] at h
    split at h
    · rename_i cs hb
      split at h
      · rename_i hc
        cases h
        simp only [Bool.and_eq_true] at hc
        obtain ⟨⟨hc0, hc1⟩, hc2⟩ := hc
        have hc2 := Nat.le_of_ble_eq_true hc2
        have hc1 := eq_of_beq hc1
        obtain ⟨hcells, hone⟩ := solid_cells hc0 hv
        have hzl : z.cells.toList.length = size := by rw [← hcells.length]; exact hc1
        obtain ⟨e, he, rfl⟩ := hp
        obtain ⟨h1, h2, cur, el, h3, h4⟩ := hH.blk id _ e hb he
        have hlen := h4.length
        have hcl : cur.toList.length = cur.size := by simp
        refine ⟨_, _, F, rfl, hrun e.ad.block j cur el h3 (by omega) hzl hone, ?_⟩
        refine HR_set hH hb he trivial (.inl ⟨_, rfl⟩) rfl rfl rfl (by simp) (fun k hk => setRow_other _ _ _ _ hk) (fun hg => ?_) (by intro _ _ h; cases h)
        refine ⟨h1, h2, _, el, setRow_heap w _ _ _ _ _ h3, ?_⟩
        have hA := ((h4.take j).append hcells).append (h4.drop (j + size))
        rw [show j + size = j + z.cells.toList.length by rw [hzl]] at hA ⊢
        exact hA.mono fun _ _ => VR0_gr hg
      · cases h
    · cases h
  | eptr id q j =>
    simp only [storeP] at h
    split at h
    · rename_i te l hb
      split at h
      · cases h
      · rename_i hc
        split at h
        · rename_i x hni hx
          cases h
          simp only [Bool.and_eq_true] at hc
          obtain ⟨⟨hc0, hc1⟩, hc2⟩ := hc
          have hc2 := Nat.le_of_ble_eq_true hc2
          have hc1 := eq_of_beq hc1
          obtain ⟨hcells, hone⟩ := solid_cells hc0 hv
          have hzl : z.cells.toList.length = size := by rw [← hcells.length]; exact hc1
          obtain ⟨e, he, hq, rfl⟩ := hp
          obtain ⟨h1, h2, h3, h4, h5⟩ := hH.blk id _ e hb he
          have hql : q < l.length := by omega
          obtain ⟨hcap, us, ha, hl, hu⟩ := arr_rows hH hb he q _ (nth_get hql)
          obtain ⟨cur, el, h7, h8, h9⟩ := h5 hcap
          -- what the element will be
          have hex := explode_ok (g := g) te _ us ha
          have hall := ((hex.take j).append hcells).append (hex.drop (j + size))
          obtain ⟨pre, v1, v2, e1, e2, hCR, hr0⟩ := collapse_ok hH te _ _ _ _ hx hall
          cases hr0
          simp only [List.append_nil] at e1 e2
          subst e2
          have hids : ∀ i ∈ ownIds pre, i ∈ ownIds (cellsOf v) := by
            intro i hi
            rw [← e1, ownIds_append, ownIds_append] at hi
            have hno : ∀ (m : List AV), (∀ y ∈ m, y ∈ explode te (nth te l q)) → i ∉ ownIds m := fun m hm hi => by
              have := ownIds_sub hm i hi
              rw [ownIds_explode] at this; cases this
            rcases List.mem_append.1 hi with hi | hi
            · rcases List.mem_append.1 hi with hi | hi
              · exact absurd hi (hno _ fun y hy => List.mem_of_mem_take hy)
              · exact hi
            · exact absurd hi (hno _ fun y hy => List.mem_of_mem_drop hy)
          have hni' : id ∉ ownIds (cellsOf v) := by
            intro hc
            have : (ownIds (cellsOf v)).contains id = true := by simpa using hc
            rw [this] at hni; cases hni
          have hH1 := lend_HR hH (ownIds (cellsOf v))
          have hg1 := lend_gr hH (ownIds (cellsOf v))
          have hb1 : (lendAll H (ownIds (cellsOf v)))[id]? = some (.arr te l false) := by rw [lendAll_other _ _ _ hni']; exact hb
          have hCR' := CR_lend hids hCR
          have hcl : cur.toList.length = cur.size := by simp
          have hjl := mul_lt_of hql (sz := te.size) (j := te.size - 1)
          have hin : e.ad.off + (q * te.size + j) + z.cells.toList.length ≤ cur.size := by
            have h10 : (q + 1) * te.size ≤ e.cap * te.size := Nat.mul_le_mul_right _ (by omega)
            rw [Nat.add_mul, Nat.one_mul] at h10
            omega
          have hset := HR_set (w' := w.setRow e.ad.block (cur.toList.take (e.ad.off + (q * te.size + j)) ++ z.cells.toList ++ cur.toList.drop (e.ad.off + (q * te.size + j) + z.cells.toList.length)).toArray)
            (b' := .arr te (l.set q x) false) hH1 hb1 he hcap (.inr (.inl ⟨_, _, rfl⟩)) rfl rfl rfl (by simp) (fun k hk => setRow_other _ _ _ _ hk) (fun hg => by
              refine ⟨h1, by simpa using h2, by simpa using h3, h4, fun _ => ?_⟩
              refine ⟨_, el, setRow_heap w _ _ _ _ _ h7, ?_, fun k y hy => ?_⟩
              · have : ∀ (n : Nat), n + z.cells.toList.length ≤ cur.toList.length → (cur.toList.take n ++ z.cells.toList ++ cur.toList.drop (n + z.cells.toList.length)).length = cur.toList.length := by
                  intro n hn; simp; simp at hn; omega
                rw [← Array.length_toList, List.toList_toArray, this _ (by omega)]
                omega
              · by_cases hkq : k = q
                · subst hkq
                  rw [List.getElem?_set_self hql] at hy
                  cases hy
                  refine ⟨_, CR_gr hg hCR', fun m u hm => ?_⟩
                  rw [← Array.getElem?_toList, List.toList_toArray]
                  have hms := idx_lt hm
                  have hus : us.length = te.size := hl
                  rw [hzl.symm, splice_get (by omega)] at hm
                  rw [splice_get (by omega)]
                  have hml : m < te.size := by
                    simp only [List.length_append, List.length_take, List.length_drop] at hms; omega
                  by_cases c1 : m < j
                  · rw [if_pos c1] at hm
                    rw [if_pos (by omega), Array.getElem?_toList, ← cell_of_block h7]
                    exact hu m u hm
                  · rw [if_neg c1] at hm
                    rw [if_neg (by omega)]
                    by_cases c2 : m < j + z.cells.toList.length
                    · rw [if_pos c2] at hm
                      rw [if_pos (by omega), ← hm]
                      congr 1; omega
                    · rw [if_neg c2] at hm
                      rw [if_neg (by omega), Array.getElem?_toList, ← cell_of_block h7]
                      exact hu m u hm
                · rw [List.getElem?_set_ne (fun h => hkq h.symm)] at hy
                  obtain ⟨us', hus', hu'⟩ := h9 k y hy
                  refine ⟨us', CR_gr (hg1.trans hg) hus', fun m u hm => ?_⟩
                  rw [← Array.getElem?_toList, List.toList_toArray, splice_get (l := cur.toList) (zs := z.cells.toList) (o := e.ad.off + (q * te.size + j)) (by omega)]
                  have hm' := idx_lt hm
                  rw [CR_len _ _ _ hus'] at hm'
                  have hout : e.ad.off + (k * te.size + m) < e.ad.off + (q * te.size + j) ∨ e.ad.off + (q * te.size + j) + z.cells.toList.length ≤ e.ad.off + (k * te.size + m) := by
                    rcases Nat.lt_or_gt_of_ne hkq with hlt | hgt
                    · have := mul_lt_of hlt hm'
                      left; omega
                    · have : (q + 1) * te.size ≤ k * te.size := Nat.mul_le_mul_right _ hgt
                      rw [Nat.add_mul, Nat.one_mul] at this
                      right; omega
                  rcases hout with ho | ho
                  · rw [if_pos ho, Array.getElem?_toList]; exact hu' m u hm
                  · rw [if_neg (by omega), if_neg (by omega), Array.getElem?_toList]; exact hu' m u hm) (by intro _ _ h; cases h)
          refine ⟨_, _, _, by rw [h1], hrun e.ad.block _ cur el h7 hin hzl hone, hg1.trans hset.1, hset.2⟩
        · cases h
    · cases h
  | _ => cases h
end
end Go.Proofs.YtjklgmflillagaaDoor.Ev
