/- Plain data and the cells that hold it: taken apart, put together, given for reading. -/
import Derived.Test.YtjklgmflillagaaDoorEv3
namespace Go.Proofs.YtjklgmflillagaaDoor.Ev
open Go Go.RowKit
set_option linter.unusedVariables false
set_option linter.unusedSimpArgs false

theorem cell_of_block {w : World} {b o : Nat} {vs : Array Value} {el : TypeId} {fr : Nat × Nat} (h : w.heap[b]? = some (.cells vs el fr)) : w.cell? ⟨b, o, none⟩ = vs[o]? := by
  simp [World.cell?, h]

theorem explode_ok {F : Fz} {w : World} {g : List GE} : (t : Ty) → (x : t.den) → (vs : List Value) → CR F w t x vs → All2 (VR0 F w g) (explode t x) vs
  | .int _, _, _, h => by simp only [CR] at h; subst h; exact .cons rfl .nil
  | .bool, _, _, h => by simp only [CR] at h; subst h; exact .cons rfl .nil
  | .str, _, _, h => by simp only [CR] at h; subst h; exact .cons rfl .nil
  | .unit, _, _, h => by simp only [CR] at h; subst h; exact .nil
  | .sl t, l, vs, h => by
    have h' := h
    simp only [CR] at h'
    obtain ⟨A, c, rfl, _⟩ := h'
    exact .cons h .nil
  | .st t, x, vs, h => by simp only [CR] at h; exact explode_ok t x vs h
  | .pair a b, x, _, h => by
    simp only [CR] at h
    obtain ⟨v1, v2, rfl, h1, h2⟩ := h
    exact (explode_ok a _ _ h1).append (explode_ok b _ _ h2)

theorem explode_len : (t : Ty) → (x : t.den) → (explode t x).length = t.size
  | .int _, _ => rfl
  | .bool, _ => rfl
  | .str, _ => rfl
  | .unit, _ => rfl
  | .sl _, _ => rfl
  | .st t, x => explode_len t x
  | .pair a b, x => by simp [explode, Ty.size, explode_len a, explode_len b]

/-- The cells that own blocks of these numbers hold. -/
def lendF (F : Fz) (g : List GE) (H : Hp) (ids : List Nat) : Fz := fun b o =>
  F b o ∨ ∃ id ∈ ids, ∃ t l s e, H[id]? = some (.arr t l s) ∧ g[id]? = some e ∧ 0 < e.cap ∧ e.ad.block = b ∧ e.ad.off ≤ o ∧ o < e.ad.off + l.length * t.size

theorem lend1_get (H : Hp) (id i : Nat) (b : Blk) (h : (lend1 H id)[i]? = some b) :
    ∃ c, H[i]? = some c ∧ (b = c ∨ ∃ t l s, c = .arr t l s ∧ b = .arr t l true) := by
  unfold lend1 at h
  rw [List.getElem?_modify] at h
  cases hc : H[i]? with
  | none => simp [hc] at h
  | some c =>
    refine ⟨c, rfl, ?_⟩
    rw [hc] at h
    by_cases hi : id = i
    · simp only [if_pos hi] at h
      have h' := Option.some.inj h
      cases c with
      | arr t l s => exact .inr ⟨t, l, s, rfl, h'.symm⟩
      | _ => exact .inl h'.symm
    · simp only [if_neg hi] at h
      exact .inl (Option.some.inj h).symm
theorem lendAll_get : ∀ (ids : List Nat) (H : Hp) (i : Nat) (b : Blk), (lendAll H ids)[i]? = some b →
    ∃ c, H[i]? = some c ∧ (b = c ∨ ∃ t l s, c = .arr t l s ∧ b = .arr t l true)
  | [], H, i, b, h => ⟨b, h, .inl rfl⟩
  | id :: ids, H, i, b, h => by
    have h' : (lendAll (lend1 H id) ids)[i]? = some b := h
    obtain ⟨c, h1, h2⟩ := lendAll_get ids _ i b h'
    obtain ⟨d, h3, h4⟩ := lend1_get _ _ _ _ h1
    refine ⟨d, h3, ?_⟩
    rcases h4 with rfl | ⟨t, l, s, rfl, rfl⟩
    · exact h2
    · rcases h2 with rfl | ⟨t', l', s', h5, rfl⟩
      · exact .inr ⟨t, l, s, rfl, rfl⟩
      · cases h5; exact .inr ⟨t, l, s, rfl, rfl⟩
theorem lend1_len (H : Hp) (id : Nat) : (lend1 H id).length = H.length := by simp [lend1]
theorem lendAll_len : ∀ (ids : List Nat) (H : Hp), (lendAll H ids).length = H.length
  | [], _ => rfl
  | id :: ids, H => by
    show (lendAll (lend1 H id) ids).length = _
    rw [lendAll_len ids, lend1_len]
/-- A block that was lent is marked. -/
theorem lend1_mark (H : Hp) (id : Nat) (t : Ty) (l : List t.den) (s : Bool) (h : H[id]? = some (.arr t l s)) : (lend1 H id)[id]? = some (.arr t l true) := by
  simp [lend1, List.getElem?_modify, h]
theorem lend1_keep (H : Hp) (id i : Nat) (t : Ty) (l : List t.den) (h : H[i]? = some (.arr t l true)) : (lend1 H id)[i]? = some (.arr t l true) := by
  simp only [lend1, List.getElem?_modify, h, Option.map_some]
  split <;> rfl
theorem lendAll_keep : ∀ (ids : List Nat) (H : Hp) (i : Nat) (t : Ty) (l : List t.den), H[i]? = some (.arr t l true) → (lendAll H ids)[i]? = some (.arr t l true)
  | [], _, _, _, _, h => h
  | id :: ids, H, i, t, l, h => lendAll_keep ids (lend1 H id) i t l (lend1_keep H id i t l h)
theorem lendAll_mark : ∀ (ids : List Nat) (H : Hp) (i : Nat) (t : Ty) (l : List t.den) (s : Bool), i ∈ ids → H[i]? = some (.arr t l s) → (lendAll H ids)[i]? = some (.arr t l true)
  | [], _, _, _, _, _, h, _ => by simp at h
  | id :: ids, H, i, t, l, s, hm, h => by
    show (lendAll (lend1 H id) ids)[i]? = _
    by_cases hi : i = id
    · subst hi
      exact lendAll_keep ids _ _ _ _ (lend1_mark H i t l s h)
    · rcases List.mem_cons.1 hm with h' | h'
      · exact absurd h' hi
      · refine lendAll_mark ids _ i t l s h' ?_
        have : (id = i) = False := by simp; exact fun e => hi e.symm
        simp [lend1, List.getElem?_modify, h, this]

theorem real_lend {b c : Blk} {e : GE} (h : b = c ∨ ∃ t l s, c = .arr t l s ∧ b = .arr t l true) : Real b e ↔ Real c e := by
  rcases h with rfl | ⟨t, l, s, rfl, rfl⟩ <;> simp [Real]

theorem lend_gr {B : Nat → Prop} {F : Fz} {g : List GE} {w : World} {H : Hp} (hH : HR B F w g H) (ids : List Nat) : Gr B F g w (lendF F g H ids) g w := by
  refine ⟨fun _ _ h => .inl h, fun b o h => ?_, fun _ _ _ _ h => h, fun _ _ h => h, Sam.refl _ _⟩
  rcases h with h | ⟨id, _, t, l, s, e, h1, h2, h3, rfl, _⟩
  · exact .inl h
  · exact .inr (hH.own id _ e h1 h2 h3).1

theorem lend_HR {B : Nat → Prop} {F : Fz} {g : List GE} {w : World} {H : Hp} (hH : HR B F w g H) (ids : List Nat) : HR B (lendF F g H ids) w g (lendAll H ids) := by
  have hg := lend_gr hH ids
  refine ⟨by rw [lendAll_len]; exact hH.len, fun i b e hb he => ?_, fun i b e hb he hr => ?_, fun i j b c e f hb hc he hf hr hs hij => ?_, fun k o hk => ?_⟩
  · obtain ⟨c, hc, hbc⟩ := lendAll_get ids H i b hb
    have hbr := hH.blk i c e hc he
    rcases hbc with rfl | ⟨t, l, s, rfl, rfl⟩
    · cases b with
      | var cs =>
        obtain ⟨h1, h2, vs, el, h3, h4⟩ := hbr
        exact ⟨h1, h2, vs, el, h3, h4.mono fun _ _ => VR0_gr hg⟩
      | arr t l s =>
        obtain ⟨h1, h2, h3, h4, h5⟩ := hbr
        refine ⟨h1, h2, h3, h4, fun hc => ?_⟩
        obtain ⟨vs, el, h7, h8, h9⟩ := h5 hc
        exact ⟨vs, el, h7, h8, fun i x hx => let ⟨us, ha, hb⟩ := h9 i x hx; ⟨us, CR_gr hg ha, hb⟩⟩
      | iter s p => exact hbr
      | dead => trivial
    · obtain ⟨h1, h2, h3, h4, h5⟩ := hbr
      refine ⟨h1, h2, h3, h4, fun hc => ?_⟩
      obtain ⟨vs, el, h7, h8, h9⟩ := h5 hc
      exact ⟨vs, el, h7, h8, fun i x hx => let ⟨us, ha, hb⟩ := h9 i x hx; ⟨us, CR_gr hg ha, hb⟩⟩
  · obtain ⟨c, hc, hbc⟩ := lendAll_get ids H i b hb
    exact hH.own i c e hc he ((real_lend hbc).1 hr)
  · obtain ⟨b', hb', hbb⟩ := lendAll_get ids H i b hb
    obtain ⟨c', hc', hcc⟩ := lendAll_get ids H j c hc
    exact hH.sep i j b' c' e f hb' hc' he hf ((real_lend hbb).1 hr) ((real_lend hcc).1 hs) hij
  · rcases hk with hk | ⟨id, hid, t, l, s, e, h1, h2, h3, rfl, h5, h6⟩
    · obtain ⟨h1, h2⟩ := hH.frz k o hk
      refine ⟨h1, fun i b e hb he hr hbk => ?_⟩
      obtain ⟨c, hc, hbc⟩ := lendAll_get ids H i b hb
      obtain ⟨t, l, h3, h4⟩ := h2 i c e hc he ((real_lend hbc).1 hr) hbk
      subst h3
      rcases hbc with rfl | ⟨t', l', s', h5, rfl⟩
      · exact ⟨t, l, rfl, h4⟩
      · cases h5; exact ⟨t, l, rfl, h4⟩
    · refine ⟨(hH.own id _ e h1 h2 h3).2, fun i b f hb hf hr hbk => ?_⟩
      obtain ⟨c, hc, hbc⟩ := lendAll_get ids H i b hb
      by_cases hi : i = id
      · subst hi
        have : f = e := by rw [h2] at hf; exact (Option.some.inj hf).symm
        subst this
        rw [lendAll_mark ids H i t l s hid h1] at hb
        cases hb
        exact ⟨t, l, rfl, h6⟩
      · exact absurd hbk (hH.sep i id c _ f e hc h1 hf h2 ((real_lend hbc).1 hr) h3 hi)

end Go.Proofs.YtjklgmflillagaaDoor.Ev
