/- The entries of one path in an index without fault: at most three, their stages rise. -/
import Derived.Test.YtmojilihllhadaaGreatDoorPfIndex
set_option linter.unusedVariables false
set_option linter.unusedSimpArgs false
namespace Go.Proofs.YtmojilihllhadaaGreatDoor.Ev
open Go

theorem ltE_tr {x y z : T_Entry.den} (h : ltE x y) (k : ltE y z) : ltE x z := by
  rcases h with h | ⟨e, h⟩ <;> rcases k with k | ⟨e', k⟩
  · exact .inl (cmp_trans h k)
  · exact .inl (e' ▸ h)
  · exact .inl (e ▸ k)
  · exact .inr ⟨e.trans e', by omega⟩
theorem ix_lt {l : List T_Entry.den} (h : OkIx l l.length) : ∀ (k i : Nat) (hj : i + 1 + k < l.length), ltE (l[i]'(by omega)) l[i + 1 + k]
  | 0, i, hj => (h.beh i (by omega) (by omega)).1
  | k + 1, i, hj => ltE_tr (ix_lt h k i (by omega)) (h.beh (i + 1 + k) (by omega) (by omega)).1
theorem ltE_le {x y : T_Entry.den} (h : ltE x y) : cmp x.1 y.1 < 0 ∨ x.1 = y.1 := h.elim .inl fun k => .inr k.1
theorem ix_same {l : List T_Entry.den} (h : OkIx l l.length) (i k : Nat) (hj : i + 1 + k < l.length) (he : (l[i]'(by omega) : T_Entry.den).1 = (l[i + 1 + k] : T_Entry.den).1) :
    stg (l[i]'(by omega)) < stg l[i + 1 + k] ∧ stg (l[i]'(by omega)) ≠ 0 := by
  have h1 := ix_lt h k i hj
  have h2 : stg (l[i]'(by omega)) < stg l[i + 1 + k] := by
    rcases h1 with h1 | ⟨_, h1⟩
    · rw [he, cmp_self] at h1; omega
    · exact h1
  refine ⟨h2, ?_⟩
  have hb := h.beh i (by omega) (by omega)
  refine hb.2 ?_
  cases k with
  | zero => exact he
  | succ k =>
    have h3 : ltE (l[i + 1]'(by omega)) (l[i + 1 + (k + 1)]'(by omega)) := by
      have := ix_lt h k (i + 1) (by omega)
      simpa only [show i + 1 + 1 + k = i + 1 + (k + 1) by omega] using this
    rcases hb.1 with h4 | ⟨e, _⟩
    · exfalso
      rcases ltE_le h3 with h5 | h5
      · have := cmp_trans h4 h5; rw [he, cmp_self] at this; omega
      · rw [h5, ← he, cmp_self] at h4; omega
    · exact e
/-- how entries of one path stand to one another -/
def Rel (x y : T_Entry.den) : Prop := x.1 = y.1 → stg x < stg y ∧ stg x ≠ 0
theorem ix_pair {l : List T_Entry.den} (h : OkIx l l.length) : l.Pairwise Rel := by
  rw [List.pairwise_iff_getElem]
  intro i j hi hj hij he
  obtain ⟨k, rfl⟩ : ∃ k, j = i + 1 + k := ⟨j - (i + 1), by omega⟩
  exact ix_same h i k hj he
/-- the entries of a path -/
def ofP (l : List T_Entry.den) (p : ByteArray) : List T_Entry.den := l.filter fun e => decide (e.1 = p)
inductive Few : List T_Entry.den → Prop where
  | nil : Few []
  | one (a : T_Entry.den) (h : 0 ≤ stg a ∧ stg a ≤ 3) : Few [a]
  | two (a b : T_Entry.den) (h : 1 ≤ stg a ∧ stg a < stg b ∧ stg b ≤ 3) : Few [a, b]
  | three (a b c : T_Entry.den) (h : stg a = 1 ∧ stg b = 2 ∧ stg c = 3) : Few [a, b, c]
theorem few_of {l : List T_Entry.den} (h : OkIx l l.length) (p : ByteArray) : Few (ofP l p) := by
  have h1 : (ofP l p).Pairwise Rel := (ix_pair h).filter _
  have h2 : ∀ e ∈ ofP l p, e.1 = p ∧ 0 ≤ stg e ∧ stg e ≤ 3 := by
    intro e he
    obtain ⟨m, hp⟩ := List.mem_filter.1 he
    obtain ⟨i, hi, rfl⟩ := List.getElem_of_mem m
    exact ⟨of_decide_eq_true hp, h.st i hi hi⟩
  generalize ofP l p = M at h1 h2
  match M, h1, h2 with
  | [], _, _ => exact .nil
  | [a], _, h2 => exact .one a (h2 a (by simp)).2
  | [a, b], h1, h2 =>
    have ra := (List.pairwise_cons.1 h1).1 b (by simp)
    obtain ⟨a1, a2, a3⟩ := h2 a (by simp)
    obtain ⟨b1, b2, b3⟩ := h2 b (by simp)
    obtain ⟨r1, r2⟩ := ra (a1.trans b1.symm)
    exact .two a b ⟨by omega, r1, b3⟩
  | [a, b, c], h1, h2 =>
    have ra := (List.pairwise_cons.1 h1).1 b (by simp)
    have rb := (List.pairwise_cons.1 (List.pairwise_cons.1 h1).2).1 c (by simp)
    obtain ⟨a1, a2, a3⟩ := h2 a (by simp)
    obtain ⟨b1, b2, b3⟩ := h2 b (by simp)
    obtain ⟨c1, c2, c3⟩ := h2 c (by simp)
    obtain ⟨r1, r2⟩ := ra (a1.trans b1.symm)
    obtain ⟨q1, q2⟩ := rb (b1.trans c1.symm)
    exact .three a b c ⟨by omega, by omega, by omega⟩
  | a :: b :: c :: d :: r, h1, h2 =>
    exfalso
    have ra := (List.pairwise_cons.1 h1).1 b (by simp)
    have rb := (List.pairwise_cons.1 (List.pairwise_cons.1 h1).2).1 c (by simp)
    have rc := (List.pairwise_cons.1 (List.pairwise_cons.1 (List.pairwise_cons.1 h1).2).2).1 d (by simp)
    obtain ⟨a1, a2, a3⟩ := h2 a (by simp)
    obtain ⟨b1, b2, b3⟩ := h2 b (by simp)
    obtain ⟨c1, c2, c3⟩ := h2 c (by simp)
    obtain ⟨d1, d2, d3⟩ := h2 d (by simp)
    obtain ⟨r1, r2⟩ := ra (a1.trans b1.symm)
    obtain ⟨q1, q2⟩ := rb (b1.trans c1.symm)
    obtain ⟨s1, s2⟩ := rc (c1.trans d1.symm)
    omega
end Go.Proofs.YtmojilihllhadaaGreatDoor.Ev
