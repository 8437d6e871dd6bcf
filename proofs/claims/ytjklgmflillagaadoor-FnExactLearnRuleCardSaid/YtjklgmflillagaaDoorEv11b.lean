/- A stretch of an own slice is written over. -/
import Derived.Test.YtjklgmflillagaaDoorEv11
namespace Go.Proofs.YtjklgmflillagaaDoor.Ev
open Go Go.RowKit
set_option linter.unusedVariables false
set_option linter.unusedSimpArgs false

section
variable {α : Type} {P : Program} {E : Env} {B : Nat → Prop} {F : Fz} {g : List GE} {w : World} {H : Hp}

theorem CR_one : (t : Ty) → (x : t.den) → (us : List Value) → CR F w t x us → ∀ v ∈ us, v.oneCell' = true
  | .int _, _, _, h => by simp only [CR] at h; subst h; intro v hv; simp only [List.mem_singleton] at hv; subst hv; rfl
  | .bool, _, _, h => by simp only [CR] at h; subst h; intro v hv; simp only [List.mem_singleton] at hv; subst hv; rfl
  | .str, _, _, h => by simp only [CR] at h; subst h; intro v hv; simp only [List.mem_singleton] at hv; subst hv; rfl
  | .unit, _, _, h => by simp only [CR] at h; subst h; intro v hv; cases hv
  | .sl _, _, _, h => by simp only [CR] at h; obtain ⟨_, _, rfl, _⟩ := h; intro v hv; simp only [List.mem_singleton] at hv; subst hv; rfl
  | .st t, x, us, h => CR_one t x us h
  | .pair a b, x, _, h => by
    simp only [CR] at h
    obtain ⟨v1, v2, rfl, h1, h2⟩ := h
    intro v hv
    rcases List.mem_append.1 hv with hv | hv
    · exact CR_one a _ _ h1 v hv
    · exact CR_one b _ _ h2 v hv

theorem laid_one {t : Ty} {cells : Array Value} {l : List t.den} (h : Laid F w t cells l) : ∀ v ∈ cells.toList, v.oneCell' = true := by
  intro v hv
  obtain ⟨m, hm⟩ := List.getElem?_of_mem hv
  have hm' : cells[m]? = some v := by simpa using hm
  have hlt : m < l.length * t.size := by rw [← h.1]; exact (Array.getElem?_eq_some_iff.1 hm').1
  have hsz : 0 < t.size := by
    rcases Nat.eq_zero_or_pos t.size with h0 | h0
    · rw [h0] at hlt; omega
    · exact h0
  have hi : m / t.size < l.length := (Nat.div_lt_iff_lt_mul hsz).2 hlt
  obtain ⟨us, ha, hb⟩ := h.2 (m / t.size) _ (List.getElem?_eq_getElem hi)
  have hj : m % t.size < us.length := by rw [CR_len _ _ _ ha]; exact Nat.mod_lt _ hsz
  have := hb (m % t.size) _ (List.getElem?_eq_getElem hj)
  rw [show m / t.size * t.size + m % t.size = m by rw [Nat.mul_comm]; exact Nat.div_add_mod _ _, hm'] at this
  cases this
  exact CR_one t _ _ ha _ (List.getElem_mem hj)

theorem splice_len {β : Type} {l ys : List β} {off : Nat} (h : off + ys.length ≤ l.length) : (splice l off ys).length = l.length := by simp [splice]; omega
theorem splice_nil {β : Type} {l : List β} {off : Nat} : splice l off [] = l := by simp [splice]

theorem splice_ok {id : Nat} {t : Ty} {l ys : List t.den} {e : GE} {off : Nat} (hH : HR B F w g H) (hb : H[id]? = some (.arr t l false)) (he : g[id]? = some e) (hoff : off + ys.length ≤ l.length)
    {cells : Array Value} (hl : Laid F w t cells ys) {A : Option Addr} (hA : 0 < ys.length → A = some ⟨e.ad.block, e.ad.off + off * t.size, none⟩) :
    ∃ w', (∀ a, A = some a → (storeCells a cells.toList).run P w = .ok () w') ∧ (A = none → w' = w) ∧ Gr B F g w F g w' ∧ HR B F w' g (H.set id (.arr t (splice l off ys) false)) := by
  obtain ⟨h1, h2, h3, h4, h5⟩ := hH.blk id _ e hb he
  by_cases hy : ys.length = 0
  · have : ys = [] := List.length_eq_zero_iff.1 hy
    subst this
    have hc : cells.toList = [] := by
      have := hl.1
      simp at this
      simp [this]
    refine ⟨w, fun a _ => by rw [hc]; rfl, fun _ => rfl, Gr.refl .., ?_⟩
    rw [splice_nil]
    rw [show H.set id (.arr t l false) = H from by
      apply List.ext_getElem?
      intro j
      by_cases hj : id = j
      · subst hj; rw [List.getElem?_set_self (idx_lt hb), hb]
      · rw [List.getElem?_set_ne hj]]
    exact hH
  · have hcap : 0 < e.cap := by omega
    obtain ⟨cur, el, h7, h8, h9⟩ := h5 hcap
    have hcl : cells.toList.length = ys.length * t.size := by have := hl.1; simpa using this
    have hin : e.ad.off + off * t.size + cells.toList.length ≤ cur.size := by
      have : (off + ys.length) * t.size ≤ e.cap * t.size := Nat.mul_le_mul_right _ (by omega)
      rw [Nat.add_mul] at this
      omega
    have hst := run_storeCells_at (P := P) e.ad.block (e.ad.off + off * t.size) el cells.toList 0 cur w h7 (by omega) (laid_one hl)
    simp only [Nat.add_zero] at hst
    have hA' := hA (by omega)
    refine ⟨w.setRow e.ad.block (cur.toList.take (e.ad.off + off * t.size) ++ cells.toList ++ cur.toList.drop (e.ad.off + off * t.size + cells.toList.length)).toArray, ?_, ?_, ?_⟩
    · intro a ha; rw [hA'] at ha; cases ha; exact hst
    · intro hn; rw [hA'] at hn; cases hn
    refine HR_set hH hb he hcap (.inr (.inl ⟨_, _, rfl⟩)) rfl rfl rfl (by simp) (fun k hk => setRow_other _ _ _ _ hk) (fun hg => ?_) (by intro _ _ h; cases h)
    refine ⟨h1, by rw [splice_len hoff]; exact h2, by rw [splice_len hoff]; exact h3, h4, fun _ => ?_⟩
    have hcurl : cur.toList.length = cur.size := by simp
    refine ⟨_, el, setRow_heap w _ _ _ _ _ h7, ?_, fun i x hx => ?_⟩
    · have : (cur.toList.take (e.ad.off + off * t.size) ++ cells.toList ++ cur.toList.drop (e.ad.off + off * t.size + cells.toList.length)).length = cur.toList.length := by
        simp only [List.length_append, List.length_take, List.length_drop]; omega
      rw [← Array.length_toList, List.toList_toArray, this]
      omega
    · have hil := idx_lt hx
      rw [splice_len hoff] at hil
      have hcase : (i < off ∨ off + ys.length ≤ i) ∧ l[i]? = some x ∨ (off ≤ i ∧ i < off + ys.length ∧ ys[i - off]? = some x) := by
        unfold splice at hx
        have hto : (l.take off).length = off := by simp; omega
        rcases Nat.lt_or_ge i off with hi | hi
        · rw [List.append_assoc, List.getElem?_append_left (by omega), List.getElem?_take, if_pos hi] at hx
          exact .inl ⟨.inl hi, hx⟩
        · rw [List.append_assoc, List.getElem?_append_right (by omega), hto] at hx
          rcases Nat.lt_or_ge i (off + ys.length) with hi2 | hi2
          · rw [List.getElem?_append_left (by omega)] at hx
            exact .inr ⟨hi, hi2, hx⟩
          · rw [List.getElem?_append_right (by omega), List.getElem?_drop] at hx
            rw [show off + ys.length + (i - off - ys.length) = i by omega] at hx
            exact .inl ⟨.inr hi2, hx⟩
      have hget : ∀ m, m < cur.toList.length → (cur.toList.take (e.ad.off + off * t.size) ++ cells.toList ++ cur.toList.drop (e.ad.off + off * t.size + cells.toList.length))[m]? =
          if m < e.ad.off + off * t.size then cur.toList[m]? else if m < e.ad.off + off * t.size + cells.toList.length then cells.toList[m - (e.ad.off + off * t.size)]? else cur.toList[m]? := by
        intro m hm
        have hto : (cur.toList.take (e.ad.off + off * t.size)).length = e.ad.off + off * t.size := by rw [List.length_take]; omega
        split
        · rename_i h; rw [List.append_assoc, List.getElem?_append_left (by omega), List.getElem?_take, if_pos h]
        · rename_i h
          rw [List.append_assoc, List.getElem?_append_right (by omega), hto]
          split
          · rename_i h'; rw [List.getElem?_append_left (by omega)]
          · rename_i h'
            rw [List.getElem?_append_right (by omega), List.getElem?_drop]
            congr 1
            omega
      rcases hcase with ⟨hside, hx'⟩ | ⟨hi1, hi2, hx'⟩
      · obtain ⟨us, ha, hu⟩ := h9 i x hx'
        refine ⟨us, CR_gr hg ha, fun j u hj => ?_⟩
        have hjl : j < t.size := by rw [← CR_len _ _ _ ha]; exact idx_lt hj
        have hold := hu j u hj
        have hold' : cur.toList[e.ad.off + (i * t.size + j)]? = some u := by simpa using hold
        have hm := idx_lt hold'
        have := hget _ hm
        rw [Array.getElem?_toList.symm, List.toList_toArray, this]
        rcases hside with hs | hs
        · have := mul_lt_of hs hjl
          rw [if_pos (by omega)]; exact hold'
        · have : (off + ys.length) * t.size ≤ i * t.size := Nat.mul_le_mul_right _ hs
          rw [Nat.add_mul] at this
          rw [if_neg (by omega), if_neg (by omega)]; exact hold'
      · obtain ⟨us, ha, hu⟩ := hl.2 (i - off) x hx'
        refine ⟨us, CR_gr hg ha, fun j u hj => ?_⟩
        have hjl : j < t.size := by rw [← CR_len _ _ _ ha]; exact idx_lt hj
        have hnew := hu j u hj
        have hnew' : cells.toList[(i - off) * t.size + j]? = some u := by simpa using hnew
        have e1 : i * t.size = off * t.size + (i - off) * t.size := by rw [← Nat.add_mul]; congr 1; omega
        have hlt := idx_lt hnew'
        have := hget (e.ad.off + (i * t.size + j)) (by omega)
        rw [Array.getElem?_toList.symm, List.toList_toArray, this, if_neg (by omega), if_pos (by omega), ← hnew']
        congr 1
        omega

end
end Go.Proofs.YtjklgmflillagaaDoor.Ev
