/- append and make. -/
import Derived.Test.YtjklgmflillagaaDoorEv10
import Derived.ArgAppend
namespace Go.Proofs.YtjklgmflillagaaDoor.Ev
open Go Go.RowKit
set_option linter.unusedVariables false
set_option linter.unusedSimpArgs false

section
variable {α : Type} {P : Program} {E : Env} {B : Nat → Prop} {F : Fz} {g : List GE} {w : World} {H : Hp}

theorem run_append_in {st xt ty e e2 : TypeId} {i : TypeInfo} (ht : P.underlying st = some (.slice e)) (hx : P.underlying xt = some (.slice e2)) (hi : P.info? e = some i)
    {base A : Option Addr} {sLen sCap n c : Nat} {cs : List Value} (hfc : (Builtin.firstCells i.size n (.slice A n c)).run P w = .ok cs.toArray w) (hroom : sLen + n ≤ sCap)
    {w' : World} (hst : ∀ a, base = some a → (storeCells (a.add (sLen * i.size)) cs).run P w = .ok () w') (hn : base = none → w' = w) :
    (Builtin.append_ #[st, xt] ty #[.slice base sLen sCap, .slice A n c]).run P w = .ok (.slice base (sLen + n) sCap) w' := by
  cases base with
  | none =>
    have := hn rfl
    subst this
    simp [Builtin.append_, run_underlying ht, run_underlying hx, sizeOf, typeInfo, hi, Builtin.lenOf, hroom, hfc]
  | some a =>
    have := hst a rfl
    simp [Builtin.append_, run_underlying ht, run_underlying hx, sizeOf, typeInfo, hi, Builtin.lenOf, hroom, hfc, this]

theorem run_append_out {st xt ty e e2 : TypeId} {i : TypeInfo} {z : Value} (ht : P.underlying st = some (.slice e)) (hx : P.underlying xt = some (.slice e2)) (hi : P.info? e = some i) (hz : i.zero = some z) (hb : i.bytes ≤ 1024)
    {base A : Option Addr} {sLen sCap n c : Nat} {cs os : List Value} (hfc : (Builtin.firstCells i.size n (.slice A n c)).run P w.drew = .ok cs.toArray w.drew)
    (hfo : (Builtin.firstCells i.size sLen (.slice base sLen sCap)).run P w.drew = .ok os.toArray w.drew) (hroom : sCap < sLen + n) (hsm : sLen + n < 4294967296) :
    ∃ nc cells, sLen + n ≤ nc ∧ cells.toList = os ++ cs ++ (Builtin.zeroCells z.cells (nc - (sLen + n))).toList ∧ (Builtin.append_ #[st, xt] ty #[.slice base sLen sCap, .slice A n c]).run P w =
      .ok (.slice (some ⟨w.heap.size, 0, none⟩) (sLen + n) nc) (w.drew.alloc (.cells cells e)) := by
  refine ⟨(Question.appendCap (sLen + n) sCap e).cut (w.tape w.drawn (Question.appendCap (sLen + n) sCap e)),
    os.toArray ++ (cs.toArray ++ Builtin.zeroCells z.cells ((Question.appendCap (sLen + n) sCap e).cut (w.tape w.drawn (Question.appendCap (sLen + n) sCap e)) - (sLen + n))),
    by simp only [Question.cut]; omega, by simp, ?_⟩
  generalize hG : (os.toArray ++ (cs.toArray ++ Builtin.zeroCells z.cells ((Question.appendCap (sLen + n) sCap e).cut (w.tape w.drawn (Question.appendCap (sLen + n) sCap e)) - (sLen + n)))) = G
  have h1 : ¬ (sLen + n ≤ sCap) := by omega
  have h2 : ¬ (Builtin.nextslicecap (sLen + n) sCap * i.bytes > 2 ^ 48) := by
    have a := nextslicecap_le hroom
    have b : Builtin.nextslicecap (sLen + n) sCap * i.bytes ≤ (2 * (sLen + n) + 768) * 1024 := Nat.mul_le_mul a hb
    omega
  have h3 : ¬ (((sLen + n : Nat) : Int) > IntKind.i64.max ∧ (false = true ∨ i.bytes = 0)) := by
    rintro ⟨h, _⟩
    have e : IntKind.i64.max = 9223372036854775807 := rfl
    rw [e] at h; omega
  have h4 : ¬ (9223372036854775807 < ((sLen : Int) + (n : Int)) ∧ i.bytes = 0) := by omega
  have h5 : ¬ (281474976710656 < Builtin.nextslicecap (sLen + n) sCap * i.bytes) := by simpa using h2
  have h6 : ∀ (x : Nat) (w : World), (askRoom x).run P w = .ok () w := by
    intro x w
    unfold askRoom
    split <;> rfl
  simp [Builtin.append_, run_underlying ht, run_underlying hx, sizeOf, typeInfo, hi, Builtin.lenOf, h1, h4, h5, h6, Question.forced, hfc, hfo, zeroValue, hz, newRow, hG]

/-- no memory, no elements -/
theorem new_virt {t : Ty} (s : Bool) (hH : HR B F w g H) (hB : Bs B w) :
    ∃ g', Gr B F g w F g' w ∧ HR B F w g' (H ++ [.arr t [] s]) ∧ ∀ A, VR0 F w g' (.all H.length t.size 0) (.slice A 0 0) := by
  obtain ⟨h1, h2⟩ := HR_new (e := ⟨⟨0, 0, none⟩, t.size, 0, 0⟩) (b := .arr t [] s) hH hB (News.refl w) (fun hg => ⟨rfl, rfl, Nat.le_refl _, rfl, fun h => absurd h (by simp)⟩) (fun h => absurd h (by simp [Real]))
  refine ⟨_, h1, h2, fun A => ⟨⟨⟨0, 0, none⟩, t.size, 0, 0⟩, A, ?_, rfl, rfl, rfl, rfl, fun h => absurd h (by simp), Nat.le_refl _⟩⟩
  rw [← hH.len, List.getElem?_append_right (Nat.le_refl _)]; simp

theorem append_in {t : Ty} {l xs : List t.den} {s : Bool} {id off n0 : Nat} {e : GE} {cs : List Value} (hH : HR B F w g H) (hb : H[id]? = some (.arr t l s)) (he : g[id]? = some e)
    (hoff : off + n0 ≤ l.length) (hs : s = true → off = 0 ∧ n0 = l.length) (hcap : 0 < e.cap - off) (hroom : n0 + xs.length ≤ e.cap - off)
    (h1 : cs.length = xs.length * t.size) (h2 : ∀ i x, i < xs.length → xs[i]? = some x → ∃ us, CR F w t x us ∧ ∀ j u, us[j]? = some u → cs[i * t.size + j]? = some u) (h4 : ∀ v ∈ cs, v.oneCell' = true) :
    ∃ w' g', (storeCells ⟨e.ad.block, e.ad.off + off * t.size + n0 * t.size, none⟩ cs).run P w = .ok () w' ∧ Gr B F g w F g' w' ∧
      HR B F w' g' (H.set id .dead ++ [.arr t ((l.drop off).take n0 ++ xs) s]) ∧
      VR0 F w' g' (.all H.length t.size ((l.drop off).take n0 ++ xs).length) (.slice (some ⟨e.ad.block, e.ad.off + off * t.size, none⟩) (n0 + xs.length) (e.cap - off)) := by
  obtain ⟨k1, k2, k3, k4, k5⟩ := hH.blk id _ e hb he
  obtain ⟨cur, el, k7, k8, k9⟩ := k5 (by omega)
  have hcl : cur.toList.length = cur.size := by simp
  have hl0 : ((l.drop off).take n0).length = n0 := by simp; omega
  have hfit : e.ad.off + off * t.size + n0 * t.size + cs.length ≤ cur.size := by
    have a : (off + (n0 + xs.length)) * t.size ≤ e.cap * t.size := Nat.mul_le_mul_right _ (by omega)
    rw [Nat.add_mul, Nat.add_mul] at a
    omega
  have hrun := run_storeCells_at (P := P) e.ad.block (e.ad.off + off * t.size + n0 * t.size) el cs 0 cur w k7 (by omega) h4
  simp only [Nat.add_zero] at hrun
  have hlen : (cur.toList.take (e.ad.off + off * t.size + n0 * t.size) ++ cs ++ cur.toList.drop (e.ad.off + off * t.size + n0 * t.size + cs.length)).length = cur.size := by
    simp only [List.length_append, List.length_take, List.length_drop]; omega
  have hmove := HR_move (b' := .arr t ((l.drop off).take n0 ++ xs) s) (e' := ⟨⟨e.ad.block, e.ad.off + off * t.size, none⟩, t.size, e.cap - off, n0 + xs.length⟩)
    (w' := w.setRow e.ad.block (cur.toList.take (e.ad.off + off * t.size + n0 * t.size) ++ cs ++ cur.toList.drop (e.ad.off + off * t.size + n0 * t.size + cs.length)).toArray)
    hH hb he (by show 0 < e.cap; omega) rfl rfl rfl (by simp) (fun k hk => setRow_other _ _ _ _ hk)
    (fun o u hF hu => by
      obtain ⟨t', l', hl', ho⟩ := (hH.frz _ _ hF).2 id _ e hb he (by show 0 < e.cap; omega) rfl
      cases hl'
      obtain ⟨rfl, rfl⟩ := hs rfl
      rw [cell_of_block (setRow_heap w _ _ _ _ _ k7), ← Array.getElem?_toList, List.toList_toArray, splice_get (by omega), if_pos (by omega), Array.getElem?_toList, ← cell_of_block k7]
      exact hu)
    (fun hg => by
      refine ⟨rfl, by simp only [List.length_append, hl0], by simp only [List.length_append, hl0]; exact hroom, rfl, fun _ => ⟨_, el, setRow_heap w _ _ _ _ _ k7, ?_, fun i x hx => ?_⟩⟩
      · rw [← Array.length_toList, List.toList_toArray, hlen]
        have a : (off + (e.cap - off)) * t.size ≤ e.cap * t.size := Nat.mul_le_mul_right _ (by omega)
        rw [Nat.add_mul] at a
        show e.ad.off + off * t.size + (e.cap - off) * t.size ≤ cur.size
        omega
      · rcases Nat.lt_or_ge i n0 with hi | hi
        · rw [List.getElem?_append_left (by omega), List.getElem?_take, if_pos hi, List.getElem?_drop] at hx
          obtain ⟨us, ha, hu⟩ := k9 (off + i) x hx
          refine ⟨us, CR_gr hg ha, fun j u hj => ?_⟩
          have hj' := idx_lt hj
          rw [CR_len _ _ _ ha] at hj'
          have hlt := mul_lt_of hi hj'
          have := hu j u hj
          rw [Nat.add_mul] at this
          show (cur.toList.take (e.ad.off + off * t.size + n0 * t.size) ++ cs ++ cur.toList.drop (e.ad.off + off * t.size + n0 * t.size + cs.length)).toArray[e.ad.off + off * t.size + (i * t.size + j)]? = some u
          rw [← Array.getElem?_toList, List.toList_toArray, splice_get (by omega), if_pos (by omega), Array.getElem?_toList, show e.ad.off + off * t.size + (i * t.size + j) = e.ad.off + (off * t.size + i * t.size + j) by omega]
          exact this
        · rw [List.getElem?_append_right (by omega), hl0] at hx
          obtain ⟨us, ha, hu⟩ := h2 (i - n0) x (idx_lt hx) hx
          refine ⟨us, CR_gr hg ha, fun j u hj => ?_⟩
          have hj2 := hu j u hj
          have hj3 := idx_lt hj2
          have hmul : (i - n0) * t.size = i * t.size - n0 * t.size := Nat.sub_mul _ _ _
          have hle : n0 * t.size ≤ i * t.size := Nat.mul_le_mul_right _ hi
          show (cur.toList.take (e.ad.off + off * t.size + n0 * t.size) ++ cs ++ cur.toList.drop (e.ad.off + off * t.size + n0 * t.size + cs.length)).toArray[e.ad.off + off * t.size + (i * t.size + j)]? = some u
          rw [← Array.getElem?_toList, List.toList_toArray, splice_get (by omega), if_neg (by omega), if_pos (by omega), ← hj2]
          congr 1; omega)
    (fun _ => rfl)
    (fun o hF _ => by
      obtain ⟨t', l', hl', ho⟩ := (hH.frz _ _ hF).2 id _ e hb he (by show 0 < e.cap; omega) rfl
      cases hl'
      obtain ⟨rfl, rfl⟩ := hs rfl
      refine ⟨_, _, rfl, ?_⟩
      have a : l.length * t.size ≤ ((l.drop 0).take l.length ++ xs).length * t.size := Nat.mul_le_mul_right _ (by simp)
      show o < e.ad.off + 0 * t.size + _
      omega)
  refine ⟨_, _, hrun, hmove.1, hmove.2, ⟨⟨e.ad.block, e.ad.off + off * t.size, none⟩, t.size, e.cap - off, n0 + xs.length⟩, some ⟨e.ad.block, e.ad.off + off * t.size, none⟩, ?_, ?_, rfl, rfl, ?_, fun _ => rfl, ?_⟩
  · rw [← hH.len, List.getElem?_append_right (Nat.le_refl _)]; simp
  · simp only [List.length_append, hl0]
  · simp only [List.length_append, hl0]
  · simp only [List.length_append, hl0]; exact hroom
end
end Go.Proofs.YtjklgmflillagaaDoor.Ev
