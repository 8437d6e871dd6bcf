/- Own blocks numbered anew. -/
import Derived.Test.YtjklgmflillagaaDoorEv17
namespace Go.Proofs.YtjklgmflillagaaDoor.Ev
open Go Go.RowKit
set_option linter.unusedVariables false
set_option linter.unusedSimpArgs false

section
variable {P : Program} {E : Env} {B : Nat → Prop} {F : Fz} {g : List GE} {w : World} {H : Hp}

def reG (g : List GE) (π : List Nat) : List GE := π.map fun i => g.getD i ⟨⟨0, 0, none⟩, 0, 0, 0⟩

theorem sigma_some {π : List Nat} {i j : Nat} (h : sigma π i = some j) : π[j]? = some i := by
  unfold sigma at h
  have := List.idxOf?_eq_some_iff.1 h
  obtain ⟨hj, he, _⟩ := this
  rw [List.getElem?_eq_getElem hj]
  simpa using he

theorem reG_get {π : List Nat} {i j : Nat} {e : GE} (h : sigma π i = some j) (he : g[i]? = some e) : (reG g π)[j]? = some e := by
  simp [reG, sigma_some h, List.getD, he]

theorem ren0_ok {π : List Nat} {x : AV} {v : Value} (h : VR0 F w g x v) : VR0 F w (reG g π) (ren0 (sigma π) x) v := by
  cases x with
  | all id sz n =>
    simp only [ren0]
    split
    · rename_i j hj; obtain ⟨e, A, he, hr⟩ := h; exact ⟨e, A, reG_get hj he, hr⟩
    · trivial
  | own id sz off n =>
    simp only [ren0]
    split
    · rename_i j hj; obtain ⟨e, A, he, hr⟩ := h; exact ⟨e, A, reG_get hj he, hr⟩
    · trivial
  | ptr id i =>
    simp only [ren0]
    split
    · rename_i j hj; obtain ⟨e, he, hr⟩ := h; exact ⟨e, reG_get hj he, hr⟩
    · trivial
  | eptr id i k =>
    simp only [ren0]
    split
    · rename_i j hj; obtain ⟨e, he, hr⟩ := h; exact ⟨e, reG_get hj he, hr⟩
    · trivial
  | aptr id sz n =>
    simp only [ren0]
    split
    · rename_i j hj; obtain ⟨e, he, hr⟩ := h; exact ⟨e, reG_get hj he, hr⟩
    · trivial
  | agg cs => trivial
  | tup cs => trivial
  | fn f cs => trivial
  | _ => exact h
theorem ren0_tup (σ : Nat → Option Nat) (x : AV) (cs : List AV) : ren0 σ x ≠ .tup cs := by
  cases x <;> simp only [ren0] <;> first | (intro h; cases h; done) | (split <;> (intro h; cases h))
theorem ren1_ok {π : List Nat} {x : AV} {v : Value} (h : VR1 F w g x v) : VR1 F w (reG g π) (ren1 (sigma π) x) v := by
  cases x with
  | agg cs => obtain ⟨vs, rfl, hc⟩ := h; exact ⟨vs, rfl, by simpa using hc.map (ren0 (sigma π)) id fun _ _ => ren0_ok⟩
  | fn f cs => obtain ⟨vs, rfl, hc⟩ := h; exact ⟨vs, rfl, by simpa using hc.map (ren0 (sigma π)) id fun _ _ => ren0_ok⟩
  | tup cs => trivial
  | _ =>
    simp only [VR1] at h
    have h0 := ren0_ok (π := π) h
    have h1 := VR2_1 (VR0_2 h0) (ren0_tup _ _)
    simp only [ren1]
    exact h1
theorem ren2_ok {π : List Nat} {x : AV} {v : Value} (h : VR2 F w g x v) : VR2 F w (reG g π) (ren2 (sigma π) x) v := by
  cases x with
  | tup cs => obtain ⟨vs, rfl, hc⟩ := h; exact ⟨vs, rfl, by simpa using hc.map (ren1 (sigma π)) id fun _ _ => ren1_ok⟩
  | _ => simp only [VR2] at h; exact VR1_2 (ren1_ok (π := π) h)

theorem cutTs_ok {π : List Nat} {live : List Nat} {ts : List AV} {us : List Value} (h : All2 (VR2 F w g) ts us) : ∀ i, All2 (VR2 F w (reG g π)) (cutTs live π i ts) us := by
  induction h with
  | nil => intro i; exact .nil
  | cons h t ih =>
    intro i
    refine .cons ?_ (ih (i + 1))
    split
    · exact ren2_ok h
    · trivial

theorem addNew_nodup : ∀ (l acc : List Nat), acc.Nodup → (addNew acc l).Nodup
  | [], _, h => h
  | i :: l, acc, h => by
    simp only [addNew]
    split
    · exact addNew_nodup l acc h
    · rename_i hc
      refine addNew_nodup l _ (List.nodup_append.2 ⟨h, by simp, ?_⟩)
      intro a ha b hb
      simp at hb
      subst hb
      rintro rfl
      have : acc.contains a = true := by simpa using ha
      rw [this] at hc; cases hc
theorem closure_nodup (H : Hp) : ∀ (n : Nat) (acc : List Nat), acc.Nodup → (closure H n acc).Nodup
  | 0, _, h => h
  | n + 1, acc, h => closure_nodup H n _ (addNew_nodup _ _ h)
theorem cutPi_nodup (H : Hp) (m : Nat) (vs : List Nat) : (cutPi H m vs).Nodup := closure_nodup H 3 _ (addNew_nodup _ _ List.nodup_range)
theorem addNew_pre : ∀ (l acc : List Nat), ∃ r, addNew acc l = acc ++ r
  | [], acc => ⟨[], by simp [addNew]⟩
  | i :: l, acc => by
    simp only [addNew]
    split
    · exact addNew_pre l acc
    · obtain ⟨r, hr⟩ := addNew_pre l (acc ++ [i])
      exact ⟨i :: r, by rw [hr]; simp⟩
theorem closure_pre (H : Hp) : ∀ (n : Nat) (acc : List Nat), ∃ r, closure H n acc = acc ++ r
  | 0, acc => ⟨[], by simp [closure]⟩
  | n + 1, acc => by
    have : ∀ l, ∃ r, closure H n (addNew acc l) = acc ++ r := fun l => by
      obtain ⟨r', hr'⟩ := addNew_pre l acc
      obtain ⟨r, hr⟩ := closure_pre H n (addNew acc l)
      exact ⟨r' ++ r, by rw [hr, hr', List.append_assoc]⟩
    exact this _
/-- the first blocks keep their numbers -/
theorem reG_first (H : Hp) (m : Nat) (vs : List Nat) (hm : m ≤ g.length) : ∀ i, i < m → (reG g (cutPi H m vs))[i]? = g[i]? := by
  intro i hi
  obtain ⟨r', hr'⟩ := addNew_pre vs (List.range m)
  obtain ⟨r, hr⟩ := closure_pre H 3 (addNew (List.range m) vs)
  have hc : (cutPi H m vs)[i]? = some i := by
    unfold cutPi
    rw [hr, hr', List.append_assoc, List.getElem?_append_left (by simpa using hi)]
    simp [hi]
  have hg : g[i]? = some (g[i]'(by omega)) := List.getElem?_eq_getElem (by omega)
  simp [reG, hc, List.getD, hg]

theorem renB_real {σ : Nat → Option Nat} {b : Blk} {e : GE} : Real (renB σ b) e ↔ Real b e := by cases b <;> exact Iff.rfl

theorem pickH_ok (hH : HR B F w g H) {π : List Nat} (hn : π.Nodup) : HR B F w (reG g π) (pickH H π) := by
  have hlen := hH.len
  have hget : ∀ (j : Nat) (b : Blk) (e : GE), (pickH H π)[j]? = some b → (reG g π)[j]? = some e → b = .dead ∨ ∃ i c, π[j]? = some i ∧ H[i]? = some c ∧ g[i]? = some e ∧ b = renB (sigma π) c := by
    intro j b e hb he
    simp only [pickH, List.getElem?_map, Option.map_eq_some_iff] at hb
    obtain ⟨i, hi, rfl⟩ := hb
    simp only [reG, List.getElem?_map, hi, Option.map_some, Option.some.injEq] at he
    cases hc : H[i]? with
    | none => left; simp [List.getD, hc, renB]
    | some c =>
      have hlt := idx_lt hc
      have hg : g[i]? = some (g[i]'(by omega)) := List.getElem?_eq_getElem (by omega)
      refine .inr ⟨i, c, hi, hc, ?_, by simp [List.getD, hc]⟩
      rw [← he]; simp [List.getD, hg]
  have hinj : ∀ (j k i : Nat), π[j]? = some i → π[k]? = some i → j = k := by
    intro j k i h1 h2
    exact (List.getElem?_inj (idx_lt h1) hn).1 (h1.trans h2.symm)
  refine ⟨by simp [reG, pickH], fun j b e hb he => ?_, fun j b e hb he hr => ?_, fun j k b c e f hb hc he hf hr hs hjk => ?_, fun k o hk => ?_⟩
  · rcases hget j b e hb he with rfl | ⟨i, c, h1, h2, h3, rfl⟩
    · trivial
    · have := hH.blk i c e h2 h3
      cases c with
      | var cs =>
        obtain ⟨k1, k2, vs, el, k3, k4⟩ := this
        refine ⟨k1, k2, vs, el, k3, ?_⟩
        have := k4.map (ren1 (sigma π)) id (T := VR0 F w (reG g π)) fun a b hab => by
          cases a with
          | agg => exact hab.elim
          | tup => exact hab.elim
          | fn f cs => obtain ⟨rfl, rfl⟩ := hab; exact ⟨rfl, rfl⟩
          | _ => exact ren0_ok (π := π) hab
        simpa using this
      | arr t l s => exact this
      | iter s p => exact this
      | dead => trivial
  · rcases hget j b e hb he with rfl | ⟨i, c, h1, h2, h3, rfl⟩
    · exact hr.elim
    · exact hH.own i c e h2 h3 (renB_real.1 hr)
  · rcases hget j b e hb he with rfl | ⟨i, c', h1, h2, h3, rfl⟩
    · exact hr.elim
    · rcases hget k c f hc hf with rfl | ⟨i', d, h4, h5, h6, rfl⟩
      · exact hs.elim
      · refine hH.sep i i' c' d e f h2 h5 h3 h6 (renB_real.1 hr) (renB_real.1 hs) ?_
        rintro rfl
        exact hjk (hinj j k i h1 h4)
  · obtain ⟨h1, h2⟩ := hH.frz k o hk
    refine ⟨h1, fun j b e hb he hr hbk => ?_⟩
    rcases hget j b e hb he with rfl | ⟨i, c, h3, h4, h5, rfl⟩
    · exact hr.elim
    · obtain ⟨t, l, rfl, hlt⟩ := h2 i c e h4 h5 (renB_real.1 hr) hbk
      exact ⟨t, l, rfl, hlt⟩

/-- THE STATE AT A CUT, NUMBERED ANEW. -/
theorem renumber_ok {ts : List AV} {a : Act} (hs : St B F g w H ts a) (m : Nat) (live : List Nat) (vs : List Nat) :
    St B F (reG g (cutPi H m vs)) w (pickH H (cutPi H m vs)) (cutTs live (cutPi H m vs) 0 ts) a :=
  ⟨cutTs_ok hs.tmps 0, pickH_ok hs.heap (cutPi_nodup H m vs), hs.base, hs.defers⟩
end
end Go.Proofs.YtjklgmflillagaaDoor.Ev
