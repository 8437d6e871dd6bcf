/- The state behind a call. -/
import Derived.Test.YtjklgmflillagaaDoorEv16
namespace Go.Proofs.YtjklgmflillagaaDoor.Ev
open Go Go.RowKit
set_option linter.unusedVariables false
set_option linter.unusedSimpArgs false

section
variable {P : Program} {E : Env} {B : Nat → Prop} {F : Fz} {g : List GE} {w : World} {H : Hp}

/-- What a call gives back: its own blocks are new, its slices for reading may lie in what was given for reading before. -/
def RetOk0 (own : Bool) (ts : List Ty) (F : Fz) (w w' : World) (x : (retTy ts).den) (v : Value) : Prop :=
  ∃ F' g', Gr (Old w) F [] w F' g' w' ∧ HR (Old w) F' w' g' (retVals own ts x 0).2 ∧ VR2 F' w' g' (one (retVals own ts x 0).1) v
def gb (back : List Ty) (g : List GE) : List GE := match back with
  | [] => []
  | _ :: _ => g
/-- The same of a call that takes own blocks (of g): they come back, or they are gone. -/
def RetOk (B : Nat → Prop) (own : Bool) (ts back : List Ty) (F : Fz) (g : List GE) (w w' : World) (x : RetT ts back) (v : Value) : Prop :=
  ∃ F' g', Gr B F [] w F' [] w' ∧ HR B F' w' (gb back g ++ g') (backBlks back (rSnd ts back x) ++ (retVals own ts (rFst ts back x) (gb back g).length).2) ∧
    VR2 F' w' (gb back g ++ g') (one (retVals own ts (rFst ts back x) (gb back g).length).1) v
theorem RetOk.zero {own : Bool} {ts back : List Ty} {F : Fz} {w w' : World} {x : RetT ts back} {v : Value} (h : RetOk (Old w) own ts back F [] w w' x v) (hb : back.isEmpty = true) : RetOk0 own ts F w w' (rFst ts back x) v := by
  cases back with
  | cons a b => cases hb
  | nil =>
    obtain ⟨F', g', h1, h2, h3⟩ := h
    exact ⟨F', g', ⟨h1.up, h1.new, h1.cell, fun i e h => by simp at h, h1.below⟩, h2, h3⟩

theorem get_app {β : Type} {l m : List β} {i : Nat} {x : β} (h : (l ++ m)[i]? = some x) : l[i]? = some x ∨ (l.length ≤ i ∧ m[i - l.length]? = some x) := by
  rcases Nat.lt_or_ge i l.length with h' | h'
  · rw [List.getElem?_append_left h'] at h; exact .inl h
  · rw [List.getElem?_append_right h'] at h; exact .inr ⟨h', h⟩

def Arrs (Hc : Hp) : Prop := ∀ b ∈ Hc, ∃ t l s, b = .arr t l s

theorem HR_join {F' : Fz} {g' : List GE} {w' : World} {Hc : Hp} (hH : HR B F w g H) (hB : Bs B w) (hg : Gr (Old w) F [] w F' g' w') (hc : HR (Old w) F' w' g' Hc) (ha : Arrs Hc) :
    Gr B F g w F' (g ++ g') w' ∧ HR B F' w' (g ++ g') (H ++ Hc) := by
  have hlen := hH.len
  have hlen' := hc.len
  have hG : Gr B F g w F' (g ++ g') w' := ⟨hg.up, fun b o h => (hg.new b o h).imp id (fun h hb => h (hB b hb)), hg.cell, fun i e h => by rw [List.getElem?_append_left (idx_lt h)]; exact h, hg.below.mono hB⟩
  have hG2 : Gr B F' g' w' F' g' w' := Gr.refl ..
  have hpair : ∀ (i : Nat) (b : Blk) (e : GE), (H ++ Hc)[i]? = some b → (g ++ g')[i]? = some e → (H[i]? = some b ∧ g[i]? = some e) ∨ (H.length ≤ i ∧ Hc[i - H.length]? = some b ∧ g'[i - H.length]? = some e) := by
    intro i b e hb he
    rcases get_app hb with h1 | ⟨h1, h2⟩ <;> rcases get_app he with h3 | ⟨h3, h4⟩
    · exact .inl ⟨h1, h3⟩
    · have := idx_lt h1; omega
    · have := idx_lt h3; omega
    · exact .inr ⟨h1, h2, by rw [← hlen]; exact h4⟩
  have hvr : ∀ {x : AV} {v : Value}, VR0 F' w' g' x v → True := fun _ => trivial
  refine ⟨hG, by simp [hlen, hlen'], fun i b e hb he => ?_, fun i b e hb he hr => ?_, fun i j b c e f hb hcc he hf hr hs hij => ?_, fun k o hk => ?_⟩
  · rcases hpair i b e hb he with ⟨h1, h2⟩ | ⟨_, h1, h2⟩
    · exact BR_gr hG (fun hr => hg.below.block _ (hH.own i b e h1 h2 hr).2) (hH.blk i b e h1 h2)
    · obtain ⟨t, l, s, rfl⟩ := ha b (List.mem_of_getElem? h1)
      exact hc.blk _ _ e h1 h2
  · rcases hpair i b e hb he with ⟨h1, h2⟩ | ⟨_, h1, h2⟩
    · have := hH.own i b e h1 h2 hr
      exact ⟨this.1, Nat.lt_of_lt_of_le this.2 hg.below.size⟩
    · have := hc.own _ b e h1 h2 hr
      exact ⟨fun hb => this.1 (hB _ hb), this.2⟩
  · rcases hpair i b e hb he with ⟨h1, h2⟩ | ⟨hi, h1, h2⟩ <;> rcases hpair j c f hcc hf with ⟨h3, h4⟩ | ⟨hj, h3, h4⟩
    · exact hH.sep i j b c e f h1 h3 h2 h4 hr hs hij
    · have := (hH.own i b e h1 h2 hr).2
      have : ¬ (f.ad.block < w.heap.size) := (hc.own _ c f h3 h4 hs).1
      omega
    · have := (hH.own j c f h3 h4 hs).2
      have : ¬ (e.ad.block < w.heap.size) := (hc.own _ b e h1 h2 hr).1
      omega
    · exact hc.sep _ _ b c e f h1 h3 h2 h4 hr hs (by omega)
  · obtain ⟨k1, k2⟩ := hc.frz k o hk
    refine ⟨k1, fun i b e hb he hr hbk => ?_⟩
    rcases hpair i b e hb he with ⟨h1, h2⟩ | ⟨_, h1, h2⟩
    · have := (hH.own i b e h1 h2 hr).2
      rcases hg.new k o hk with h | h
      · exact (hH.frz k o h).2 i b e h1 h2 hr hbk
      · have h : ¬ (k < w.heap.size) := h
        omega
    · exact k2 _ b e h1 h2 hr hbk

/-- Blocks whose elements hold no slices. -/
def Plain (Hc : Hp) : Prop := ∀ b ∈ Hc, ∃ t l s, b = .arr t l s ∧ t.hasSl = false

theorem ownCells_plain : (t : Ty) → (x : t.den) → (b : Nat) → t.deepSl = false → Plain (ownCells t x b).2
  | .int _, _, _, _ => by intro b h; cases h
  | .bool, _, _, _ => by intro b h; cases h
  | .str, _, _, _ => by intro b h; cases h
  | .unit, _, _, _ => by intro b h; cases h
  | .sl t, l, _, h => by intro b hb; simp only [ownCells, List.mem_singleton] at hb; subst hb; exact ⟨t, l, false, rfl, h⟩
  | .st t, x, b, h => ownCells_plain t x b h
  | .pair s t, x, b, h => by
    simp only [Ty.deepSl, Bool.or_eq_false_iff] at h
    intro c hc
    simp only [ownCells] at hc
    rcases List.mem_append.1 hc with hc | hc
    · exact ownCells_plain s _ _ h.1 c hc
    · exact ownCells_plain t _ _ h.2 c hc
theorem ownVal_plain (t : Ty) (x : t.den) (b : Nat) (h : t.deepSl = false) : Plain (ownVal t x b).2 := by
  cases t with
  | st t => exact ownCells_plain t x b h
  | sl t => exact ownCells_plain (.sl t) x b h
  | _ => intro b h; cases h
theorem retVals_plain (own : Bool) : (ts : List Ty) → (x : (retTy ts).den) → (b : Nat) → shares own ts = false → Plain (retVals own ts x b).2
  | [], _, _, _ => by cases own <;> (intro b h; cases h)
  | [t], x, b, h => by
    cases own with
    | false => intro b h; cases h
    | true => exact ownVal_plain t x b (by simpa [shares] using h)
  | t :: u :: ts, x, b, h => by
    cases own with
    | false => intro b h; cases h
    | true =>
      simp only [shares, List.any_cons, Bool.or_eq_false_iff] at h
      intro c hc
      simp only [retVals] at hc
      rcases List.mem_append.1 hc with hc | hc
      · exact ownVal_plain t _ _ h.1 c hc
      · exact retVals_plain true (u :: ts) x.2 _ (by simp only [shares, List.any_cons, Bool.or_eq_false_iff]; exact h.2) c hc

/-- What was given for reading for the call's sake alone is taken back. -/
theorem HR_drop {F' F0 : Fz} {g' : List GE} {w' : World} {Hc : Hp} (hc : HR (Old w) F' w' g' Hc) (hp : Plain Hc) (hs : w.heap.size ≤ w'.heap.size) (hF : ∀ k o, F0 k o → k < w.heap.size) : HR (Old w) F0 w' g' Hc := by
  refine ⟨hc.len, fun i b e hb he => ?_, hc.own, hc.sep, fun k o hk => ⟨by have := hF k o hk; omega, fun i b e hb he hr hbk => ?_⟩⟩
  · obtain ⟨t, l, s, rfl, hsl⟩ := hp b (List.mem_of_getElem? hb)
    obtain ⟨h1, h2, h3, h4, h5⟩ := hc.blk i _ e hb he
    refine ⟨h1, h2, h3, h4, fun hcap => ?_⟩
    obtain ⟨vs, el, h7, h8, h9⟩ := h5 hcap
    exact ⟨vs, el, h7, h8, fun i x hx => let ⟨us, ha, hb⟩ := h9 i x hx; ⟨us, CR_noSl t x us hsl ha, hb⟩⟩
  · have h1 : ¬ (e.ad.block < w.heap.size) := (hc.own i b e hb he hr).1
    have h2 := hF k o hk
    omega

theorem ownCells_arrs : (t : Ty) → (x : t.den) → (b : Nat) → Arrs (ownCells t x b).2
  | .int _, _, _ => by intro b h; cases h
  | .bool, _, _ => by intro b h; cases h
  | .str, _, _ => by intro b h; cases h
  | .unit, _, _ => by intro b h; cases h
  | .sl t, l, _ => by intro b hb; simp only [ownCells, List.mem_singleton] at hb; subst hb; exact ⟨t, l, false, rfl⟩
  | .st t, x, b => ownCells_arrs t x b
  | .pair s t, x, b => by
    intro c hc
    simp only [ownCells] at hc
    rcases List.mem_append.1 hc with hc | hc
    · exact ownCells_arrs s _ _ c hc
    · exact ownCells_arrs t _ _ c hc
theorem ownVal_arrs (t : Ty) (x : t.den) (b : Nat) : Arrs (ownVal t x b).2 := by
  cases t with
  | st t => exact ownCells_arrs t x b
  | sl t => exact ownCells_arrs (.sl t) x b
  | _ => intro b h; cases h
theorem retVals_arrs (own : Bool) : (ts : List Ty) → (x : (retTy ts).den) → (b : Nat) → Arrs (retVals own ts x b).2
  | [], _, _ => by cases own <;> (intro b h; cases h)
  | [t], x, b => by
    cases own with
    | false => intro b h; cases h
    | true => exact ownVal_arrs t x b
  | t :: u :: ts, x, b => by
    cases own with
    | false => intro b h; cases h
    | true =>
      intro c hc
      simp only [retVals] at hc
      rcases List.mem_append.1 hc with hc | hc
      · exact ownVal_arrs t _ _ c hc
      · exact retVals_arrs true (u :: ts) x.2 _ c hc

/-- THE STATE BEHIND A CALL. -/
theorem call_back (hH : HR B F w g H) (hB : Bs B w) {own : Bool} {ts : List Ty} {x : (retTy ts).den} {v : Value} {w' : World} {args : List AV}
    (hr : RetOk0 own ts (lendF F g H (args.flatMap fun v => ownIds (cellsOf v))) w w' x v) :
    ∃ F' g', Gr B F g w F' g' w' ∧ HR B F' w' g' (afterCall own ts args H ++ (retVals own ts x H.length).2) ∧ VR2 F' w' g' (one (retVals own ts x H.length).1) v := by
  obtain ⟨F1, g1, hg, hc, hv⟩ := hr
  have hlen := hH.len
  cases hs : shares own ts with
  | true =>
    obtain ⟨h1, h2⟩ := HR_join (lend_HR hH (args.flatMap fun v => ownIds (cellsOf v))) hB hg hc (retVals_arrs own ts x 0)
    refine ⟨F1, g ++ g1, (lend_gr hH _).trans h1, ?_, ?_⟩
    · simp only [afterCall, hs]
      rw [retVals_blk own ts x H.length 0]
      exact h2
    · rw [← hlen]
      have hup := retVals_up own (F := F1) (F' := F1) (w := w') (w' := w') (g := g) (g' := g1) ts x 0 (.inr (.inr fun t l v hv => hv))
      exact one_up hup (retVals_tup own ts x 0) hv
  | false =>
    have hF : ∀ k o, F k o → k < w.heap.size := fun k o h => (hH.frz k o h).1
    have hg0 : Gr (Old w) F [] w F g1 w' := ⟨fun _ _ h => h, fun _ _ h => .inl h, fun b o u h1 h2 => hg.cell b o u (.inl h1) h2, hg.ext, hg.below⟩
    have hc0 := HR_drop hc (retVals_plain own ts x 0 hs) hg.below.size hF
    obtain ⟨h1, h2⟩ := HR_join hH hB hg0 hc0 (retVals_arrs own ts x 0)
    refine ⟨F, g ++ g1, h1, ?_, ?_⟩
    · simp only [afterCall, hs]
      rw [retVals_blk own ts x H.length 0]
      exact h2
    · rw [← hlen]
      have hup := retVals_up own (F := F1) (F' := F) (w := w') (w' := w') (g := g) (g' := g1) ts x 0 (by
        cases own with
        | true => exact .inl rfl
        | false => exact .inr (.inl (by simpa [shares] using hs)))
      exact one_up hup (retVals_tup own ts x 0) hv
end
end Go.Proofs.YtjklgmflillagaaDoor.Ev
