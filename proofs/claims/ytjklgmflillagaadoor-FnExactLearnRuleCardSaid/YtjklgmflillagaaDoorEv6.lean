/- How the own memory goes on: a block written to, a new one, one left behind. -/
import Derived.Test.YtjklgmflillagaaDoorEv5
namespace Go.Proofs.YtjklgmflillagaaDoor.Ev
open Go Go.RowKit
set_option linter.unusedVariables false
set_option linter.unusedSimpArgs false

section
variable {B : Nat → Prop} {F : Fz} {g : List GE} {w : World} {H : Hp}

theorem cell_same {w w' : World} {b o : Nat} (h : w'.heap[b]? = w.heap[b]?) : w'.cell? ⟨b, o, none⟩ = w.cell? ⟨b, o, none⟩ := by simp [World.cell?, h]

/-- What a block says lasts when its own row is as it was. -/
theorem BR_gr {F' : Fz} {g' : List GE} {w' : World} {e : GE} {b : Blk} (hg : Gr B F g w F' g' w') (hh : Real b e → w'.heap[e.ad.block]? = w.heap[e.ad.block]?) (h : BR F w g e b) : BR F' w' g' e b := by
  cases b with
  | var cs =>
    obtain ⟨h1, h2, vs, el, h3, h4⟩ := h
    exact ⟨h1, h2, vs, el, by rw [hh trivial]; exact h3, h4.mono fun _ _ => VR0_gr hg⟩
  | arr t l s =>
    obtain ⟨h1, h2, h3, h4, h5⟩ := h
    refine ⟨h1, h2, h3, h4, fun hc => ?_⟩
    obtain ⟨vs, el, h7, h8, h9⟩ := h5 hc
    exact ⟨vs, el, by rw [hh hc]; exact h7, h8, fun i x hx => let ⟨us, ha, hb⟩ := h9 i x hx; ⟨us, CR_gr hg ha, hb⟩⟩
  | iter s p =>
    obtain ⟨h1, h2, h3⟩ := h
    exact ⟨h1, h2, by rw [hh trivial]; exact h3⟩
  | dead => trivial

/-- Own, and not given for reading. -/
def Free (b : Blk) : Prop := (∃ cs, b = .var cs) ∨ (∃ t l, b = .arr t l false) ∨ ∃ s p, b = .iter s p

theorem free_F {id : Nat} {b : Blk} {e : GE} (hH : HR B F w g H) (hb : H[id]? = some b) (he : g[id]? = some e) (hr : Real b e) (hf : Free b) (o : Nat) : ¬ F e.ad.block o := by
  intro h
  obtain ⟨t, l, h1, _⟩ := (hH.frz _ _ h).2 id b e hb he hr rfl
  rcases hf with ⟨cs, rfl⟩ | ⟨t, l, rfl⟩ | ⟨s, p, rfl⟩ <;> cases h1

/-- A block is written to. -/
theorem HR_set {id : Nat} {b b' : Blk} {e : GE} {w' : World} (hH : HR B F w g H) (hb : H[id]? = some b) (he : g[id]? = some e) (hr : Real b e) (hf : Free b)
    (hos : w'.os = w.os) (htape : w'.tape = w.tape) (hout : w'.output = w.output) (hsz : w'.heap.size = w.heap.size)
    (hh : ∀ k, k ≠ e.ad.block → w'.heap[k]? = w.heap[k]?)
    (hbr : Gr B F g w F g w' → BR F w' g e b') (hlen : ∀ t l, b' ≠ .arr t l true) :
    Gr B F g w F g w' ∧ HR B F w' g (H.set id b') := by
  obtain ⟨hB, hlt⟩ := hH.own id b e hb he hr
  have hF := free_F hH hb he hr hf
  have hg : Gr B F g w F g w' := by
    refine ⟨fun _ _ h => h, fun _ _ h => .inl h, fun k o u hk hu => ?_, fun _ _ h => h, ⟨hos, htape, hout, by omega, fun k hk => hh k (fun e => hB (e ▸ hk))⟩⟩
    have : k ≠ e.ad.block := fun h => hF o (h ▸ hk)
    rw [cell_same (hh k this)]; exact hu
  have hget : ∀ (i : Nat) (c : Blk), (H.set id b')[i]? = some c → (i = id ∧ c = b') ∨ (i ≠ id ∧ H[i]? = some c) := by
    intro i c h
    by_cases hi : i = id
    · subst hi
      rw [List.getElem?_set_self (idx_lt hb)] at h
      exact .inl ⟨rfl, (Option.some.inj h).symm⟩
    · rw [List.getElem?_set_ne (fun h => hi h.symm)] at h
      exact .inr ⟨hi, h⟩
  refine ⟨hg, by rw [List.length_set]; exact hH.len, fun i c f hc hf' => ?_, fun i c f hc hf' hrc => ?_, fun i j c d f k hc hd hf' hk hrc hrd hij => ?_, fun k o hk => ?_⟩
  · rcases hget i c hc with ⟨rfl, rfl⟩ | ⟨hi, hc'⟩
    · rw [he] at hf'; cases hf'
      exact hbr hg
    · exact BR_gr hg (fun hrc => hh _ (hH.sep i id c b f e hc' hb hf' he hrc hr hi)) (hH.blk i c f hc' hf')
  · rcases hget i c hc with ⟨rfl, rfl⟩ | ⟨hi, hc'⟩
    · rw [he] at hf'; cases hf'
      exact ⟨hB, by omega⟩
    · have := hH.own i c f hc' hf' hrc
      exact ⟨this.1, by omega⟩
  · rcases hget i c hc with ⟨rfl, rfl⟩ | ⟨hi, hc'⟩ <;> rcases hget j d hd with ⟨rfl, rfl⟩ | ⟨hj, hd'⟩
    · exact absurd rfl hij
    · rw [he] at hf'; cases hf'
      exact hH.sep _ j b d _ k hb hd' he hk hr hrd hij
    · rw [he] at hk; cases hk
      exact hH.sep i _ c b f _ hc' hb hf' he hrc hr hij
    · exact hH.sep i j c d f k hc' hd' hf' hk hrc hrd hij
  · obtain ⟨h1, h2⟩ := hH.frz k o hk
    refine ⟨by omega, fun i c f hc hf' hrc hbk => ?_⟩
    rcases hget i c hc with ⟨rfl, rfl⟩ | ⟨hi, hc'⟩
    · rw [he] at hf'; cases hf'
      subst hbk
      exact absurd hk (hF o)
    · exact h2 i c f hc' hf' hrc hbk

/-- A block is left behind. -/
theorem HR_kill {id : Nat} (hH : HR B F w g H) : HR B F w g (H.set id .dead) := by
  have hget : ∀ (i : Nat) (c : Blk), (H.set id .dead)[i]? = some c → c = .dead ∨ H[i]? = some c := by
    intro i c h
    by_cases hi : i = id
    · subst hi
      by_cases hl : i < H.length
      · rw [List.getElem?_set_self hl] at h
        exact .inl (Option.some.inj h).symm
      · rw [List.getElem?_eq_none (by simp; omega)] at h; cases h
    · rw [List.getElem?_set_ne (fun h => hi h.symm)] at h
      exact .inr h
  refine ⟨by rw [List.length_set]; exact hH.len, fun i c f hc hf => ?_, fun i c f hc hf hr => ?_, fun i j c d f k hc hd hf hk hrc hrd hij => ?_, fun k o hk => ?_⟩
  · rcases hget i c hc with rfl | hc'
    · trivial
    · exact hH.blk i c f hc' hf
  · rcases hget i c hc with rfl | hc'
    · exact hr.elim
    · exact hH.own i c f hc' hf hr
  · rcases hget i c hc with rfl | hc'
    · exact hrc.elim
    · rcases hget j d hd with rfl | hd'
      · exact hrd.elim
      · exact hH.sep i j c d f k hc' hd' hf hk hrc hrd hij
  · obtain ⟨h1, h2⟩ := hH.frz k o hk
    refine ⟨h1, fun i c f hc hf hr hbk => ?_⟩
    rcases hget i c hc with rfl | hc'
    · exact hr.elim
    · exact h2 i c f hc' hf hr hbk

theorem ext_snoc (g : List GE) (e : GE) (i : Nat) (f : GE) (h : g[i]? = some f) : (g ++ [e])[i]? = some f := by
  rw [List.getElem?_append_left (idx_lt h)]; exact h
theorem get_snoc {β : Type} {l : List β} {x y : β} {i : Nat} (h : (l ++ [x])[i]? = some y) : (i < l.length ∧ l[i]? = some y) ∨ (i = l.length ∧ y = x) := by
  rcases Nat.lt_trichotomy i l.length with h' | h' | h'
  · rw [List.getElem?_append_left h'] at h; exact .inl ⟨h', h⟩
  · subst h'
    rw [List.getElem?_append_right (Nat.le_refl _)] at h
    simp at h; exact .inr ⟨rfl, h.symm⟩
  · rw [List.getElem?_eq_none (by simp; omega)] at h; cases h

/-- The world goes on by a row that is new, or not at all; memory that was there stays. -/
structure News (w w' : World) : Prop where
  os : w'.os = w.os
  tape : w'.tape = w.tape
  output : w'.output = w.output
  size : w.heap.size ≤ w'.heap.size
  old : ∀ k, k < w.heap.size → w'.heap[k]? = w.heap[k]?
theorem News.refl (w : World) : News w w := ⟨rfl, rfl, rfl, Nat.le_refl _, fun _ _ => rfl⟩
theorem News.alloc (w : World) (o : Obj) : News w (w.alloc o) := ⟨rfl, rfl, rfl, by simp, fun k hk => Below.heap_alloc _ _ _ hk⟩
theorem News.drew (w : World) : News w w.drew := ⟨rfl, rfl, rfl, Nat.le_refl _, fun _ _ => rfl⟩
theorem News.trans {a b c : World} (h : News a b) (k : News b c) : News a c :=
  ⟨k.os.trans h.os, k.tape.trans h.tape, k.output.trans h.output, Nat.le_trans h.size k.size, fun i hi => (k.old i (Nat.lt_of_lt_of_le hi h.size)).trans (h.old i hi)⟩
theorem News.below {w w' : World} (h : News w w') (hB : Bs B w) : Sam B w w' := ⟨h.os, h.tape, h.output, h.size, fun k hk => h.old k (hB k hk)⟩

theorem News.gr {w' : World} (h : News w w') (hH : HR B F w g H) (hB : Bs B w) : Gr B F g w F g w' :=
  ⟨fun _ _ h => h, fun _ _ h => .inl h, fun k o u hk hu => by rw [cell_same (h.old k (hH.frz k o hk).1)]; exact hu, fun _ _ h => h, h.below hB⟩
/-- New rows alone change nothing for the own memory. -/
theorem News.HR {w' : World} (h : News w w') (hH : HR B F w g H) (hB : Bs B w) : HR B F w' g H := by
  have hg := h.gr hH hB
  have hs := h.size
  refine ⟨hH.len, fun i b e hb he => BR_gr hg (fun hr => h.old _ (hH.own i b e hb he hr).2) (hH.blk i b e hb he), fun i b e hb he hr => ?_, hH.sep, fun k o hk => ?_⟩
  · have := hH.own i b e hb he hr; exact ⟨this.1, by omega⟩
  · obtain ⟨h1, h2⟩ := hH.frz k o hk; exact ⟨by omega, h2⟩

/-- An own block more. Its row is new (of this number or a later one), or it has none. -/
theorem HR_new {w' : World} {e : GE} {b : Blk} (hH : HR B F w g H) (hB : Bs B w) (hn : News w w')
    (hbr : Gr B F g w F (g ++ [e]) w' → BR F w' (g ++ [e]) e b) (hrow : Real b e → w.heap.size ≤ e.ad.block ∧ e.ad.block < w'.heap.size) :
    Gr B F g w F (g ++ [e]) w' ∧ HR B F w' (g ++ [e]) (H ++ [b]) := by
  have hH' := hn.HR hH hB
  have h0 := hn.gr hH hB
  have hg : Gr B F g w F (g ++ [e]) w' := ⟨h0.up, h0.new, h0.cell, fun i f h => ext_snoc g e i f h, h0.below⟩
  have hlen := hH.len
  have hpair : ∀ (i : Nat) (c : Blk) (f : GE), (H ++ [b])[i]? = some c → (g ++ [e])[i]? = some f → (H[i]? = some c ∧ g[i]? = some f) ∨ (i = H.length ∧ c = b ∧ f = e) := by
    intro i c f hc hf
    rcases get_snoc hc with ⟨h1, h2⟩ | ⟨h1, h2⟩ <;> rcases get_snoc hf with ⟨h3, h4⟩ | ⟨h3, h4⟩
    · exact .inl ⟨h2, h4⟩
    · omega
    · omega
    · exact .inr ⟨h1, h2, h4⟩
  have hgg : Gr B F g w' F (g ++ [e]) w' := ⟨fun _ _ h => h, fun _ _ h => .inl h, fun _ _ _ _ h => h, fun i f h => ext_snoc g e i f h, Sam.refl _ _⟩
  refine ⟨hg, by simp [hlen], fun i c f hc hf => ?_, fun i c f hc hf hr => ?_, fun i j c d f k hc hd hf hk hrc hrd hij => ?_, fun k o hk => ?_⟩
  · rcases hpair i c f hc hf with ⟨h1, h2⟩ | ⟨_, rfl, rfl⟩
    · exact BR_gr hgg (fun _ => rfl) (hH'.blk i c f h1 h2)
    · exact hbr hg
  · rcases hpair i c f hc hf with ⟨h1, h2⟩ | ⟨_, rfl, rfl⟩
    · exact hH'.own i c f h1 h2 hr
    · have := hrow hr; exact ⟨hB.out this.1, this.2⟩
  · rcases hpair i c f hc hf with ⟨h1, h2⟩ | ⟨hi, rfl, rfl⟩ <;> rcases hpair j d k hd hk with ⟨h3, h4⟩ | ⟨hj, rfl, rfl⟩
    · exact hH'.sep i j c d f k h1 h3 h2 h4 hrc hrd hij
    · have := (hH.own i c f h1 h2 hrc).2
      have := hrow hrd
      omega
    · have := (hH.own j d k h3 h4 hrd).2
      have := hrow hrc
      omega
    · omega
  · obtain ⟨h1, h2⟩ := hH'.frz k o hk
    refine ⟨h1, fun i c f hc hf hr hbk => ?_⟩
    rcases hpair i c f hc hf with ⟨h3, h4⟩ | ⟨_, rfl, rfl⟩
    · exact h2 i c f h3 h4 hr hbk
    · have := (hH.frz k o hk).1
      have := hrow hr
      omega

end
end Go.Proofs.YtjklgmflillagaaDoor.Ev
