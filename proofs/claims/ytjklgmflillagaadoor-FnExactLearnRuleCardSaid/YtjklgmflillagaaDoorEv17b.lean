/- Calls that take own slices: what goes along, and the state behind. -/
import Derived.Test.YtjklgmflillagaaDoorEv22
namespace Go.Proofs.YtjklgmflillagaaDoor.Ev
open Go Go.RowKit
set_option linter.unusedVariables false
set_option linter.unusedSimpArgs false

section
variable {P : Program} {E : Env} {B : Nat → Prop} {F : Fz} {g : List GE} {w : World} {H : Hp}

/-- blocks found again, shifted -/
def Sh (g1 g2 : List GE) (b1 b2 : Nat) : Prop := ∀ (j : Nat) e, g1[b1 + j]? = some e → g2[b2 + j]? = some e
theorem all_sh {F : Fz} {w : World} {g1 g2 : List GE} {b1 b2 : Nat} (h : Sh g1 g2 b1 b2) (j sz n : Nat) : Up F F w w g1 g2 (.all (b1 + j) sz n) (.all (b2 + j) sz n) := by
  rintro v ⟨e, A, h1, h2⟩
  exact ⟨e, A, h j e h1, h2⟩
theorem ownCells_sh {F : Fz} {w : World} {g1 g2 : List GE} {b1 b2 : Nat} (h : Sh g1 g2 b1 b2) : (t : Ty) → (x : t.den) → (j : Nat) → All2 (Up F F w w g1 g2) (ownCells t x (b1 + j)).1 (ownCells t x (b2 + j)).1
  | .int _, _, _ => .cons (fun _ h => h) .nil
  | .bool, _, _ => .cons (fun _ h => h) .nil
  | .str, _, _ => .cons (fun _ h => h) .nil
  | .unit, _, _ => .nil
  | .sl t, l, j => .cons (all_sh h j t.size l.length) .nil
  | .st t, x, j => ownCells_sh h t x j
  | .pair s t, x, j => by
    simp only [ownCells]
    rw [ownCells_blk s x.1 (b2 + j) (b1 + j), Nat.add_assoc, Nat.add_assoc]
    exact (ownCells_sh h s x.1 j).append (ownCells_sh h t x.2 _)
theorem ownVal_sh {F : Fz} {w : World} {g1 g2 : List GE} {b1 b2 : Nat} (h : Sh g1 g2 b1 b2) (t : Ty) (x : t.den) (j : Nat) : Up1 F F w w g1 g2 (ownVal t x (b1 + j)).1 (ownVal t x (b2 + j)).1 := by
  cases t with
  | st t =>
    rintro v ⟨vs, rfl, hv⟩
    exact ⟨vs, rfl, (ownCells_sh h t x j).up hv⟩
  | sl t => exact (all_sh h j t.size x.length : Up F F w w g1 g2 _ _)
  | _ => exact fun _ h => h
theorem retVals_sh (own : Bool) {F : Fz} {w : World} {g1 g2 : List GE} {b1 b2 : Nat} (h : Sh g1 g2 b1 b2) : (ts : List Ty) → (x : (retTy ts).den) → (j : Nat) → All2 (Up1 F F w w g1 g2) (retVals own ts x (b1 + j)).1 (retVals own ts x (b2 + j)).1
  | [], _, _ => by cases own <;> exact .nil
  | [t], x, j => by
    cases own with
    | false => exact .cons (toAV_up t x (.inr fun _ _ _ hv => hv)) .nil
    | true => exact .cons (ownVal_sh h t x j) .nil
  | t :: u :: ts, x, j => by
    cases own with
    | false => exact .cons (toAV_up t x.1 (.inr fun _ _ _ hv => hv)) (retVals_sh false h (u :: ts) x.2 j)
    | true =>
      simp only [retVals]
      rw [ownVal_blk t x.1 (b2 + j) (b1 + j), Nat.add_assoc, Nat.add_assoc]
      exact .cons (ownVal_sh h t x.1 j) (retVals_sh true h (u :: ts) x.2 _)

theorem backBlks_arrs : (back : List Ty) → (x : (retTy (slTys back)).den) → Arrs (backBlks back x)
  | [], _ => by intro b h; cases h
  | [t], l => by intro b h; simp only [backBlks, List.mem_singleton] at h; subst h; exact ⟨t, l, false, rfl⟩
  | t :: u :: r, x => by
    intro b h
    simp only [backBlks, List.mem_cons] at h
    rcases h with rfl | h
    · exact ⟨t, x.1, false, rfl⟩
    · exact backBlks_arrs (u :: r) x.2 b h
theorem backBlks_len : (back : List Ty) → (x : (retTy (slTys back)).den) → (backBlks back x).length = back.length
  | [], _ => rfl
  | [t], _ => rfl
  | t :: u :: r, x => by simp only [backBlks, List.length_cons]; rw [backBlks_len (u :: r) x.2]; rfl

/-- the blocks that the callee must leave alone -/
def KK (B : Nat → Prop) (g : List GE) (H : Hp) (ids : List Nat) : Nat → Prop := fun k => B k ∨ ∃ i b e, i ∉ ids ∧ H[i]? = some b ∧ g[i]? = some e ∧ Real b e ∧ e.ad.block = k

theorem KK_base (hH : HR B F w g H) (hB : Bs B w) (ids : List Nat) : Bs (KK B g H ids) w := by
  rintro k (h | ⟨i, b, e, _, h1, h2, h3, rfl⟩)
  · exact hB k h
  · exact (hH.own i b e h1 h2 h3).2

theorem freeArr_iff {id : Nat} : freeArr H id = true → ∃ t l, H[id]? = some (.arr t l false) := by
  intro h
  unfold freeArr at h
  split at h
  · rename_i t l hb; exact ⟨t, l, hb⟩
  · cases h

theorem take_HR (hH : HR B F w g H) {ids : List Nat} (hn : ids.Nodup) : HR (KK B g H ids) F w (reG g ids) (pickH H ids) := by
  have hp := pickH_ok hH hn
  refine ⟨hp.len, hp.blk, fun j b e hb he hr => ⟨?_, (hp.own j b e hb he hr).2⟩, hp.sep, hp.frz⟩
  rintro (h | ⟨i, c, f, hi, h1, h2, h3, h4⟩)
  · exact (hp.own j b e hb he hr).1 h
  · simp only [pickH, List.getElem?_map, Option.map_eq_some_iff] at hb
    obtain ⟨k, hk, rfl⟩ := hb
    simp only [reG, List.getElem?_map, hk, Option.map_some, Option.some.injEq] at he
    cases hc : H[k]? with
    | none => rw [show H.getD k .dead = .dead by simp [List.getD, hc]] at hr; exact hr.elim
    | some c' =>
      have hlt := idx_lt hc
      have hg : g[k]? = some (g[k]'(by have := hH.len; omega)) := List.getElem?_eq_getElem (by have := hH.len; omega)
      have he' : g[k]? = some e := by rw [hg, ← he]; simp [List.getD, hg]
      rw [show H.getD k .dead = c' by simp [List.getD, hc]] at hr
      refine hH.sep i k c c' f e h1 hc h2 he' h3 (renB_real.1 hr) ?_ h4
      rintro rfl
      exact hi (List.mem_of_getElem? hk)

theorem takeV_ok (hH : HR B F w g H) {ids : List Nat} {v : AV} {u : Value} (hv : VR0 F w g v u) : VR0 F w (reG g ids) (takeV H ids v) u := by
  cases v with
  | all id s n =>
    simp only [takeV]
    split
    · rename_i j t l s' hs hb
      obtain ⟨e, A, h1, h2, h3⟩ := hv
      have hl := (hH.blk id _ e hb h1).2.1
      exact ⟨e, A, reG_get hs h1, hl, by rw [← hl, h2]; exact h3⟩
    · trivial
  | own id s off n =>
    simp only [takeV]
    split
    · rename_i j hs
      obtain ⟨e, A, h1, h2⟩ := hv
      exact ⟨e, A, reG_get hs h1, h2⟩
    · trivial
  | ptr => trivial
  | eptr => trivial
  | aptr => trivial
  | _ => exact hv
theorem capV_ok' {v : AV} {u : Value} {g' : List GE} (hv : VR0 F w g v u) : VR0 F w g' (capV v) u := by
  cases v with
  | all => trivial
  | own => trivial
  | ptr => trivial
  | eptr => trivial
  | aptr => trivial
  | _ => exact hv
theorem takeArg_ok (hH : HR B F w g H) {ids : List Nat} {v : AV} {u : Value} (hv : VR2 F w g v u) : VR2 F w (reG g ids) (takeArg H ids v) u := by
  have leaf : ∀ v, takeArg H ids v = takeV H ids v → VR0 F w g v u → VR2 F w (reG g ids) (takeArg H ids v) u := fun v e h => by rw [e]; exact VR0_2 (takeV_ok hH h)
  cases v with
  | agg cs =>
    obtain ⟨vs, rfl, hc⟩ := hv
    refine ⟨vs, rfl, ?_⟩
    simpa using hc.map (takeV H ids) id (T := VR0 F w (reG g ids)) fun _ _ h => takeV_ok hH h
  | fn f cs =>
    obtain ⟨vs, rfl, hc⟩ := hv
    refine ⟨vs, rfl, ?_⟩
    simpa using hc.map capV id (T := VR0 F w (reG g ids)) fun _ _ h => capV_ok' h
  | tup cs => trivial
  | _ => exact leaf _ rfl hv

theorem setBack_len : ∀ (ids : List Nat) (bb H : Hp), (setBack H ids bb).length = H.length
  | [], _, _ => rfl
  | i :: r, [], H => by simp only [setBack]; rw [setBack_len r]; simp
  | i :: r, b :: bs, H => by simp only [setBack]; rw [setBack_len r]; simp
theorem setBack_get : ∀ (ids : List Nat) (bb H : Hp), ids.Nodup → (bb = [] ∨ bb.length = ids.length) → ∀ (i : Nat) b, (setBack H ids bb)[i]? = some b →
    (i ∉ ids ∧ H[i]? = some b) ∨ ∃ j : Nat, ids[j]? = some i ∧ ((bb = [] ∧ b = .dead) ∨ bb[j]? = some b)
  | [], _, _, _, _, i, b, h => .inl ⟨by simp, h⟩
  | k :: r, [], H, hn, hl, i, b, h => by
    rw [List.nodup_cons] at hn
    rcases setBack_get r [] _ hn.2 (.inl rfl) i b h with ⟨h1, h2⟩ | ⟨j, h1, h2⟩
    · by_cases hk : k = i
      · subst hk
        rw [List.getElem?_set] at h2
        split at h2
        · split at h2
          · exact .inr ⟨0, rfl, .inl ⟨rfl, (Option.some.inj h2).symm⟩⟩
          · cases h2
        · rename_i hh; exact absurd rfl hh
      · rw [List.getElem?_set_ne hk] at h2
        exact .inl ⟨by simp [Ne.symm hk, h1], h2⟩
    · rcases h2 with ⟨_, h2⟩ | h2
      · exact .inr ⟨j + 1, by simpa using h1, .inl ⟨rfl, h2⟩⟩
      · simp at h2
  | k :: r, b0 :: bs, H, hn, hl, i, b, h => by
    rw [List.nodup_cons] at hn
    have hl' : bs.length = r.length := by rcases hl with hl | hl <;> simp at hl ⊢ <;> omega
    rcases setBack_get r bs _ hn.2 (.inr hl') i b h with ⟨h1, h2⟩ | ⟨j, h1, h2⟩
    · by_cases hk : k = i
      · subst hk
        rw [List.getElem?_set] at h2
        split at h2
        · split at h2
          · exact .inr ⟨0, rfl, .inr (by simpa using h2)⟩
          · cases h2
        · rename_i hh; exact absurd rfl hh
      · rw [List.getElem?_set_ne hk] at h2
        exact .inl ⟨by simp [Ne.symm hk, h1], h2⟩
    · rcases h2 with ⟨h3, h2⟩ | h2
      · subst h3
        have := idx_lt h1
        simp at hl'; omega
      · exact .inr ⟨j + 1, by simpa using h1, .inr (by simpa using h2)⟩

/-- THE STATE BEHIND A CALL THAT TOOK OWN SLICES. -/
theorem call_backT (hH : HR B F w g H) {own : Bool} {ts back : List Ty} {x : RetT ts back} {v : Value} {w' : World} {ids : List Nat} (hn : ids.Nodup) (hf : ∀ i ∈ ids, ∃ t l, H[i]? = some (.arr t l false))
    (hbl : back = [] ∨ ids.length = back.length) (hr : RetOk (KK B g H ids) own ts back F (reG g ids) w w' x v) :
    ∃ F' g', Gr B F g w F' g' w' ∧ HR B F' w' g' (setBack H ids (backBlks back (rSnd ts back x)) ++ (retVals own ts (rFst ts back x) H.length).2) ∧ VR2 F' w' g' (one (retVals own ts (rFst ts back x) H.length).1) v := by
  obtain ⟨F', g', hg, hc, hv⟩ := hr
  have hlen := hH.len
  generalize hbb : backBlks back (rSnd ts back x) = bb at hc
  generalize hR : (retVals own ts (rFst ts back x) (gb back (reG g ids)).length).2 = R at hc
  have hR' : (retVals own ts (rFst ts back x) H.length).2 = R := by rw [← hR]; exact retVals_blk own ts _ _ _
  rw [hR']
  have harr : Arrs (bb ++ R) := by
    intro b hb
    rcases List.mem_append.1 hb with hb | hb
    · rw [← hbb] at hb; exact backBlks_arrs _ _ b hb
    · rw [← hR] at hb; exact retVals_arrs own ts _ _ b hb
  have hbl' : bb = [] ∨ bb.length = ids.length := by
    rw [← hbb, backBlks_len]
    rcases hbl with h | h
    · subst h; exact .inl rfl
    · exact .inr h.symm
  have hgl : (gb back (reG g ids)).length = bb.length ∧ (bb ≠ [] → gb back (reG g ids) = reG g ids) := by
    cases back with
    | nil => subst hbb; exact ⟨rfl, fun h => absurd rfl h⟩
    | cons t r =>
      refine ⟨?_, fun _ => rfl⟩
      rw [← hbb, backBlks_len]
      rcases hbl with h | h
      · cases h
      · simp only [gb, reG, List.length_map]; exact h
  have hcl := hc.len
  rw [List.length_append, List.length_append, hgl.1] at hcl
  have hreg : ∀ (j i : Nat) e, ids[j]? = some i → g[i]? = some e → (reG g ids)[j]? = some e := by
    intro j i e h1 h2
    simp [reG, h1, List.getD, h2]
  have hpair : ∀ (i : Nat) (b : Blk) (e : GE), (setBack H ids bb ++ R)[i]? = some b → (g ++ g')[i]? = some e →
      (i ∉ ids ∧ H[i]? = some b ∧ g[i]? = some e) ∨ b = .dead ∨
      ∃ j : Nat, (bb ++ R)[j]? = some b ∧ (gb back (reG g ids) ++ g')[j]? = some e ∧ ((j < bb.length ∧ ids[j]? = some i ∧ i < H.length) ∨ (bb.length ≤ j ∧ i = H.length + (j - bb.length))) := by
    intro i b e hb he
    rcases get_app hb with h1 | ⟨h1, h2⟩
    · have hlt := idx_lt h1
      rw [setBack_len] at hlt
      have he' : g[i]? = some e := by rw [List.getElem?_append_left (by omega)] at he; exact he
      rcases setBack_get ids bb H hn hbl' i b h1 with ⟨h3, h4⟩ | ⟨j, h3, ⟨_, h4⟩ | h4⟩
      · exact .inl ⟨h3, h4, he'⟩
      · exact .inr (.inl h4)
      · have hj := idx_lt h4
        refine .inr (.inr ⟨j, by rw [List.getElem?_append_left hj]; exact h4, ?_, .inl ⟨hj, h3, hlt⟩⟩)
        rw [List.getElem?_append_left (by rw [hgl.1]; exact hj), hgl.2 (by rintro rfl; simp at hj)]
        exact hreg j i e h3 he'
    · rw [setBack_len] at h1 h2
      have he' : g'[i - H.length]? = some e := by rw [List.getElem?_append_right (by omega), hlen] at he; exact he
      refine .inr (.inr ⟨bb.length + (i - H.length), ?_, ?_, .inr ⟨by omega, by omega⟩⟩)
      · rw [List.getElem?_append_right (by omega)]; simpa using h2
      · rw [List.getElem?_append_right (by rw [hgl.1]; omega), hgl.1]; simpa using he'
  have hG : Gr B F g w F' (g ++ g') w' := ⟨hg.up, fun b o h => (hg.new b o h).imp id (fun h hb => h (.inl hb)), hg.cell, fun i e h => by rw [List.getElem?_append_left (idx_lt h)]; exact h, hg.below.mono fun k hk => .inl hk⟩
  refine ⟨F', g ++ g', hG, ⟨?_, fun i b e hb he => ?_, fun i b e hb he hr => ?_, fun i k b c e f hb hcc he hf hr hs hik => ?_, fun k o hk => ?_⟩, ?_⟩
  · rw [List.length_append, List.length_append, setBack_len]; omega
  · rcases hpair i b e hb he with ⟨h1, h2, h3⟩ | rfl | ⟨j, h1, h2, _⟩
    · exact BR_gr hG (fun hr => hg.below.block _ (.inr ⟨i, b, e, h1, h2, h3, hr, rfl⟩)) (hH.blk i b e h2 h3)
    · trivial
    · obtain ⟨t, l, s, rfl⟩ := harr b (List.mem_of_getElem? h1)
      exact hc.blk j _ e h1 h2
  · rcases hpair i b e hb he with ⟨h1, h2, h3⟩ | rfl | ⟨j, h1, h2, _⟩
    · have := hH.own i b e h2 h3 hr
      exact ⟨this.1, Nat.lt_of_lt_of_le this.2 hg.below.size⟩
    · exact hr.elim
    · have := hc.own j b e h1 h2 hr
      exact ⟨fun hb => this.1 (.inl hb), this.2⟩
  · rcases hpair i b e hb he with ⟨h1, h2, h3⟩ | rfl | ⟨j, h1, h2, hj⟩
    · rcases hpair k c f hcc hf with ⟨h4, h5, h6⟩ | rfl | ⟨j', h4, h5, _⟩
      · exact hH.sep i k b c e f h2 h5 h3 h6 hr hs hik
      · exact hs.elim
      · intro heq
        exact (hc.own j' c f h4 h5 hs).1 (.inr ⟨i, b, e, h1, h2, h3, hr, heq⟩)
    · exact hr.elim
    · rcases hpair k c f hcc hf with ⟨h4, h5, h6⟩ | rfl | ⟨j', h4, h5, hj'⟩
      · intro heq
        exact (hc.own j b e h1 h2 hr).1 (.inr ⟨k, c, f, h4, h5, h6, hs, heq.symm⟩)
      · exact hs.elim
      · refine hc.sep j j' b c e f h1 h4 h2 h5 hr hs ?_
        rintro rfl
        rcases hj with ⟨q1, q2, _⟩ | ⟨q1, q2⟩ <;> rcases hj' with ⟨q3, q4, _⟩ | ⟨q3, q4⟩
        · rw [q2] at q4; cases q4; exact hik rfl
        · omega
        · omega
        · omega
  · obtain ⟨k1, k2⟩ := hc.frz k o hk
    refine ⟨k1, fun i b e hb he hr hbk => ?_⟩
    rcases hpair i b e hb he with ⟨h1, h2, h3⟩ | rfl | ⟨j, h1, h2, _⟩
    · rcases hg.new k o hk with h | h
      · exact (hH.frz k o h).2 i b e h2 h3 hr hbk
      · exact absurd (.inr ⟨i, b, e, h1, h2, h3, hr, hbk⟩) h
    · exact hr.elim
    · exact k2 j b e h1 h2 hr hbk
  · rw [← hlen]
    have hsh : Sh (gb back (reG g ids) ++ g') (g ++ g') (gb back (reG g ids)).length g.length := by
      intro j e h
      rw [List.getElem?_append_right (by omega)] at h ⊢
      simpa using h
    have := retVals_sh own hsh (F := F') (w := w') ts (rFst ts back x) 0
    simp only [Nat.add_zero] at this
    exact one_up this (retVals_tup own ts _ _) hv
end
end Go.Proofs.YtjklgmflillagaaDoor.Ev
