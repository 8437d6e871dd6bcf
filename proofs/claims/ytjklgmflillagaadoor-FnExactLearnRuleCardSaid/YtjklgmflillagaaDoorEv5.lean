/- Plain data read out of values: slices, whole values. -/
import Derived.Test.YtjklgmflillagaaDoorEv4
namespace Go.Proofs.YtjklgmflillagaaDoor.Ev
open Go Go.RowKit
set_option linter.unusedVariables false
set_option linter.unusedSimpArgs false

theorem castL_some {a b : Ty} {x : List a.den} {y : List b.den} (h : castL? a b x = some y) : ∃ e : a = b, y = e ▸ x := by
  unfold castL? at h
  split at h
  · rename_i e; exact ⟨e, (Option.some.inj h).symm⟩
  · cases h

section
variable {B : Nat → Prop} {F : Fz} {g : List GE} {w : World} {H : Hp}

theorem mul_lt_of {i n sz j : Nat} (h : i < n) (hj : j < sz) : i * sz + j < n * sz := by
  have h1 : (i + 1) * sz ≤ n * sz := Nat.mul_le_mul_right sz h
  rw [Nat.add_mul, Nat.one_mul] at h1
  omega

theorem arr_rows {id : Nat} {t : Ty} {l : List t.den} {s : Bool} {e : GE} (hH : HR B F w g H) (hb : H[id]? = some (.arr t l s)) (he : g[id]? = some e) (i : Nat) (x : t.den) (hx : l[i]? = some x) :
    0 < e.cap ∧ ∃ us, CR F w t x us ∧ us.length = t.size ∧ ∀ j u, us[j]? = some u → w.cell? ⟨e.ad.block, e.ad.off + (i * t.size + j), none⟩ = some u := by
  obtain ⟨h1, h2, h3, h4, h5⟩ := hH.blk id _ e hb he
  have hi : i < l.length := by
    rcases Nat.lt_or_ge i l.length with h | h
    · exact h
    · rw [List.getElem?_eq_none h] at hx; cases hx
  have hc : 0 < e.cap := by omega
  obtain ⟨vs, el, h7, h8, h9⟩ := h5 hc
  obtain ⟨us, ha, hbb⟩ := h9 i x hx
  exact ⟨hc, us, ha, CR_len _ _ _ ha, fun j u hu => by rw [cell_of_block h7]; exact hbb j u hu⟩

theorem lendF_mono {a b : List Nat} (h : ∀ i ∈ a, i ∈ b) (k o : Nat) (hk : lendF F g H a k o) : lendF F g H b k o := by
  rcases hk with hk | ⟨id, hid, r⟩
  · exact .inl hk
  · exact .inr ⟨id, h _ hid, r⟩
theorem CR_lend {a b : List Nat} (h : ∀ i ∈ a, i ∈ b) {t : Ty} {x : t.den} {vs : List Value} (k : CR (lendF F g H a) w t x vs) : CR (lendF F g H b) w t x vs :=
  CR_mono (fun _ _ => lendF_mono h _ _) (fun _ _ _ _ h => h) t x vs k
theorem CR_lend0 (a : List Nat) {t : Ty} {x : t.den} {vs : List Value} (k : CR F w t x vs) : CR (lendF F g H a) w t x vs :=
  CR_mono (fun _ _ h => .inl h) (fun _ _ _ _ h => h) t x vs k

theorem idx_lt {β : Type} {l : List β} {i : Nat} {x : β} (h : l[i]? = some x) : i < l.length := by
  rcases Nat.lt_or_ge i l.length with h' | h'
  · exact h'
  · rw [List.getElem?_eq_none h'] at h; cases h

theorem asSl_ok {t : Ty} {v : AV} {u : Value} {l : List t.den} (h : asSl H t v = some l) (hv : VR0 F w g v u) (hH : HR B F w g H) :
    CR (lendF F g H (ownIds [v])) w (.sl t) l [u] := by
  cases v with
  | sl t' l' =>
    obtain ⟨rfl, rfl⟩ := castL_some h
    exact CR_lend0 _ hv
  | emp =>
    obtain ⟨A, rfl⟩ := hv
    cases h
    simp only [CR]
    exact ⟨A, 0, rfl, Nat.le_refl _, fun i x hx => by simp at hx⟩
  | all id sz n =>
    simp only [asSl] at h
    split at h
    · rename_i t' l' s hb
      obtain ⟨rfl, rfl⟩ := castL_some h
      obtain ⟨e, A, he, hn, hsz, hsp, rfl, hA, hnc⟩ := hv
      obtain ⟨h1, h2, h3, h4, h5⟩ := hH.blk id _ e hb he
      simp only [CR]
      refine ⟨A, e.cap, by rw [← h2, hn], h3, fun i x hx => ?_⟩
      obtain ⟨hc, us, ha, hl, hu⟩ := arr_rows hH hb he i x hx
      refine ⟨e.ad, hA hc, h4, us, CR_lend0 _ ha, hl, fun j u hj => ⟨?_, hu j u hj⟩⟩
      exact .inr ⟨id, by simp [ownIds], _, _, s, e, hb, he, hc, rfl, by omega, by
        have := mul_lt_of (idx_lt hx) (hl ▸ idx_lt hj : j < _); omega⟩
    · cases h
  | own id sz off n =>
    simp only [asSl] at h
    split at h
    · rename_i t' l' s hb
      obtain ⟨rfl, rfl⟩ := castL_some h
      obtain ⟨e, A, he, hn, hsz, hnc, rfl, hA⟩ := hv
      obtain ⟨h1, h2, h3, h4, h5⟩ := hH.blk id _ e hb he
      have hlen : ((l'.drop off).take n).length = n := by simp; omega
      simp only [CR]
      refine ⟨A, e.cap - off, by rw [hlen], by rw [hlen]; omega, fun i x hx => ?_⟩
      have hi := idx_lt hx
      rw [hlen] at hi
      have hx' : l'[off + i]? = some x := by
        rw [List.getElem?_take, if_pos hi, List.getElem?_drop] at hx; exact hx
      obtain ⟨hc, us, ha, hl, hu⟩ := arr_rows hH hb he (off + i) x hx'
      refine ⟨⟨e.ad.block, e.ad.off + off * e.sz, none⟩, hA (by omega), rfl, us, CR_lend0 _ ha, hl, fun j u hj => ?_⟩
      have hlt := mul_lt_of (idx_lt hx') (hl ▸ idx_lt hj : j < _)
      have e1 : e.ad.off + off * e.sz + (i * t'.size + j) = e.ad.off + ((off + i) * t'.size + j) := by
        rw [h1, Nat.add_mul]; omega
      refine ⟨?_, by show w.cell? ⟨e.ad.block, e.ad.off + off * e.sz + (i * t'.size + j), none⟩ = _; rw [e1]; exact hu j u hj⟩
      show lendF F g H _ e.ad.block (e.ad.off + off * e.sz + (i * t'.size + j))
      rw [e1]
      exact .inr ⟨id, by simp [ownIds], _, _, s, e, hb, he, hc, rfl, by omega, by omega⟩
    · cases h
  | _ => cases h

theorem ownIds_cons (v : AV) (cs : List AV) : ownIds (v :: cs) = ownIds [v] ++ ownIds cs := by
  simp only [ownIds, List.filterMap_cons, List.filterMap_nil]
  split <;> simp
theorem ownIds_append (a b : List AV) : ownIds (a ++ b) = ownIds a ++ ownIds b := by simp [ownIds]

theorem collapse_ok (hH : HR B F w g H) : (t : Ty) → (cs : List AV) → (vs : List Value) → (x : t.den) → (r : List AV) → collapse H t cs = some (x, r) → All2 (VR0 F w g) cs vs →
    ∃ pre v1 v2, cs = pre ++ r ∧ vs = v1 ++ v2 ∧ CR (lendF F g H (ownIds pre)) w t x v1 ∧ All2 (VR0 F w g) r v2
  | .int k, cs, vs, x, r, h, hv => by
    cases hv with
    | nil => simp [collapse] at h
    | cons hv ht =>
      rename_i v u cs' vs'
      cases v <;> simp only [collapse] at h <;> try (cases h; done)
      split at h
      · rename_i hk
        subst hk
        cases h
        exact ⟨[_], [u], vs', rfl, rfl, by simp only [CR]; exact congrArg (fun z => [z]) hv, ht⟩
      · cases h
  | .bool, cs, vs, x, r, h, hv => by
    cases hv with
    | nil => simp [collapse] at h
    | cons hv ht =>
      rename_i v u cs' vs'
      cases v <;> simp only [collapse] at h <;> try (cases h; done)
      cases h
      exact ⟨[_], [u], vs', rfl, rfl, by simp only [CR]; exact congrArg (fun z => [z]) hv, ht⟩
  | .str, cs, vs, x, r, h, hv => by
    cases hv with
    | nil => simp [collapse] at h
    | cons hv ht =>
      rename_i v u cs' vs'
      cases v <;> simp only [collapse] at h <;> try (cases h; done)
      cases h
      exact ⟨[_], [u], vs', rfl, rfl, by simp only [CR]; exact congrArg (fun z => [z]) hv, ht⟩
  | .sl t, cs, vs, x, r, h, hv => by
    cases hv with
    | nil => simp [collapse] at h
    | cons hv ht =>
      rename_i v u cs' vs'
      simp only [collapse] at h
      split at h
      · rename_i l hl
        cases h
        exact ⟨[v], [u], vs', rfl, rfl, asSl_ok hl hv hH, ht⟩
      · cases h
  | .unit, cs, vs, x, r, h, hv => by
    simp only [collapse] at h
    cases h
    exact ⟨[], [], vs, rfl, rfl, by simp only [CR], hv⟩
  | .st t, cs, vs, x, r, h, hv => by
    simp only [collapse] at h
    obtain ⟨pre, v1, v2, h1, h2, h3, h4⟩ := collapse_ok hH t cs vs x r h hv
    exact ⟨pre, v1, v2, h1, h2, by simpa only [CR] using h3, h4⟩
  | .pair a b, cs, vs, x, r, h, hv => by
    simp only [collapse] at h
    split at h
    · rename_i y r1 hy
      split at h
      · rename_i z r2 hz
        cases h
        obtain ⟨p1, v1, v2, h1, h2, h3, h4⟩ := collapse_ok hH a cs vs y r1 hy hv
        obtain ⟨p2, v3, v4, h5, h6, h7, h8⟩ := collapse_ok hH b r1 v2 z _ hz h4
        refine ⟨p1 ++ p2, v1 ++ v3, v4, by rw [h1, h5, List.append_assoc], by rw [h2, h6, List.append_assoc], ?_, h8⟩
        simp only [CR]
        refine ⟨v1, v3, rfl, CR_lend (fun i hi => ?_) h3, CR_lend (fun i hi => ?_) h7⟩
        · rw [ownIds_append]; exact List.mem_append_left _ hi
        · rw [ownIds_append]; exact List.mem_append_right _ hi
      · cases h
    · cases h

/-- The cells of a value that is one cell each, for certain. -/
theorem solid0_cell {v : AV} {u : Value} (hs : solid0 v = true) (hv : VR1 F w g v u) : u.oneCell' = true := by
  cases v <;> simp only [solid0] at hs <;> simp only [VR1, VR0] at hv <;> try (cases hs; done)
  all_goals first
    | (subst hv; rfl)
    | (obtain ⟨_, _, rfl⟩ := hv; rfl)
    | (obtain ⟨_, rfl, _⟩ := hv; rfl)
    | (obtain ⟨_, rfl⟩ := hv; rfl)
    | (obtain ⟨_, _, _, _, rfl, _⟩ := hv; rfl)
    | (obtain ⟨_, _, _, _, _, _, rfl, _⟩ := hv; rfl)
    | (obtain ⟨_, _, _, _, _, rfl⟩ := hv; rfl)
    | (obtain ⟨_, _, _, _, _, rfl, _⟩ := hv; rfl)
    | (obtain ⟨_, _, _, rfl⟩ := hv; rfl)
    | (obtain ⟨_, _, _, _, rfl⟩ := hv; rfl)
    | skip
  · -- a slice for reading
    simp only [CR] at hv
    obtain ⟨A, c, h, _⟩ := hv
    cases h; rfl
  · rename_i z
    subst hv
    cases u <;> first | rfl | (simp at hs)
theorem oneCell_cells {u : Value} (h : u.oneCell' = true) : u.cells = #[u] := by
  cases u <;> first | rfl | (simp [Value.oneCell'] at h)
theorem solid0_low {v : AV} {u : Value} (hs : solid0 v = true) (hv : VR1 F w g v u) : VR0 F w g v u := by
  cases v with
  | fn f cs =>
    cases cs with
    | nil =>
      obtain ⟨vs, rfl, h⟩ := hv
      have : vs.toList = [] := by cases hh : vs.toList with
        | nil => rfl
        | cons a b => rw [hh] at h; cases h
      have hvs : vs = #[] := Array.toList_eq_nil_iff.1 this
      subst hvs
      exact ⟨rfl, rfl⟩
    | cons a b => cases hs
  | agg cs => cases hs
  | _ => exact hv
theorem solid_cells {v : AV} {u : Value} (hs : solid v = true) (hv : VR1 F w g v u) :
    All2 (VR0 F w g) (cellsOf v) u.cells.toList ∧ ∀ z ∈ u.cells.toList, z.oneCell' = true := by
  cases hv' : (match v with | .agg _ => true | _ => false) with
  | true =>
    cases v <;> simp at hv'
    rename_i cs
    obtain ⟨vs, rfl, h⟩ := hv
    simp only [solid, List.all_eq_true] at hs
    refine ⟨h, fun z hz => ?_⟩
    obtain ⟨i, hi⟩ := List.mem_iff_getElem?.1 hz
    obtain ⟨a, ha, hab⟩ := h.getR i z hi
    have hsa := hs a (List.mem_of_getElem? ha)
    refine solid0_cell hsa (F := F) (w := w) (g := g) ?_
    cases a <;> first | exact hab | exact hab.elim | (obtain ⟨rfl, rfl⟩ := hab; exact ⟨#[], rfl, .nil⟩)
  | false =>
    have hs0 : solid0 v = true := by cases v <;> first | exact hs | (simp at hv')
    have hc : cellsOf v = [v] := by cases v <;> first | rfl | (simp at hv')
    have h1 := solid0_cell hs0 hv
    rw [oneCell_cells h1, hc]
    exact ⟨.cons (solid0_low hs0 hv) .nil, fun z hz => by simp at hz; subst hz; exact h1⟩

theorem asTy_ok {t : Ty} {v : AV} {u : Value} {x : t.den} (h : asTy H t v = some x) (hv : VR1 F w g v u) (hH : HR B F w g H) :
    CR (lendF F g H (ownIds (cellsOf v))) w t x u.cells.toList := by
  unfold asTy at h
  split at h
  · rename_i y hs hy
    cases h
    simp only [Bool.and_eq_true] at hs
    obtain ⟨h1, _⟩ := solid_cells hs.1 hv
    obtain ⟨pre, v1, v2, e1, e2, h3, h4⟩ := collapse_ok hH t _ _ _ _ hy h1
    cases h4
    rw [e1, e2]
    simpa using h3
  · cases h

end
end Go.Proofs.YtjklgmflillagaaDoor.Ev
