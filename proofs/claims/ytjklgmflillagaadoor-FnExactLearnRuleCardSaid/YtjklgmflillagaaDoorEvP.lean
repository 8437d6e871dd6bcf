/- Laws on what the evaluator says: for the proofs about numbers, texts and lists. -/
import Derived.Test.YtjklgmflillagaaDoorEv34
namespace Go.Proofs.YtjklgmflillagaaDoor.Ev
open Go
set_option linter.unusedVariables false
set_option linter.unusedSimpArgs false

/-- From some fuel on the answer is r. -/
def Says {β : Type} (f : Nat → Option β) (r : β) : Prop := ∃ k, ∀ n, k ≤ n → f n = some r

section
variable {α β : Type} {r : β}
theorem Says.now (r : β) : Says (fun _ => some r) r := ⟨0, fun _ _ => rfl⟩
theorem Says.step {f g : Nat → Option β} (h : ∀ n, f (n + 1) = g n) (hg : Says g r) : Says f r := by
  obtain ⟨k, hk⟩ := hg
  refine ⟨k + 1, fun n hn => ?_⟩
  obtain ⟨m, rfl⟩ : ∃ m, n = m + 1 := ⟨n - 1, by omega⟩
  rw [h]; exact hk m (by omega)
theorem Says.bind {A : Nat → Option α} {B : Nat → α → Option β} {a : α} (h : Says A a) (k : Says (fun n => B n a) r) : Says (fun n => (A n).bind (B n)) r := by
  obtain ⟨k1, h1⟩ := h
  obtain ⟨k2, h2⟩ := k
  refine ⟨k1 + k2, fun n hn => ?_⟩
  show (A n).bind (B n) = _
  rw [h1 n (by omega)]
  exact h2 n (by omega)
theorem Says.condT {A B : Nat → Option β} {c : Bool} (hc : c = true) (h : Says A r) : Says (fun n => cond c (A n) (B n)) r := by subst hc; exact h
theorem Says.condF {A B : Nat → Option β} {c : Bool} (hc : c = false) (h : Says B r) : Says (fun n => cond c (A n) (B n)) r := by subst hc; exact h
theorem Says.pos {A B : Nat → Option β} {p : Prop} [Decidable p] (hp : p) (h : Says A r) : Says (fun n => cond (decide p) (A n) (B n)) r := Says.condT (decide_eq_true hp) h
theorem Says.neg {A B : Nat → Option β} {p : Prop} [Decidable p] (hp : ¬ p) (h : Says B r) : Says (fun n => cond (decide p) (A n) (B n)) r := Says.condF (decide_eq_false hp) h
theorem Says.cases {A B : Nat → Option β} {p : Prop} [Decidable p] (h1 : p → Says A r) (h2 : ¬ p → Says B r) : Says (fun n => cond (decide p) (A n) (B n)) r := by
  by_cases h : p
  · exact Says.pos h (h1 h)
  · exact Says.neg h (h2 h)
theorem Says.casesB {A B : Nat → Option β} {c : Bool} (h1 : c = true → Says A r) (h2 : c = false → Says B r) : Says (fun n => cond c (A n) (B n)) r := by
  cases c
  · exact h2 rfl
  · exact h1 rfl
theorem Says.join {A B : Nat → Option β} (h : Says A r) (h' : Says B r) : Says (fun n => joinO (A n) (B n)) r := by
  obtain ⟨k, hk⟩ := h
  obtain ⟨k', hk'⟩ := h'
  refine ⟨k + k', fun n hn => ?_⟩
  show joinO (A n) (B n) = _
  unfold joinO
  rw [hk n (by omega), hk' n (by omega), if_pos rfl]
theorem Says.eq {f g : Nat → Option β} (h : Says f r) (e : ∀ n, g n = f n) : Says g r := by
  obtain ⟨k, hk⟩ := h
  exact ⟨k, fun n hn => by rw [e]; exact hk n hn⟩
theorem Says.unique {f : Nat → Option β} {r' : β} (h : Says f r) (h' : Says f r') : r = r' := by
  obtain ⟨k, hk⟩ := h
  obtain ⟨k', hk'⟩ := h'
  have := hk (k + k') (by omega)
  rw [hk' (k + k') (by omega)] at this
  exact (Option.some.inj this).symm
end

theorem wrap_id {x : Int} (h1 : -9223372036854775808 ≤ x) (h2 : x ≤ 9223372036854775807) : IntKind.i64.wrap x = x := by
  have e : IntKind.i64.wrap x = if (x % 18446744073709551616) ≥ 9223372036854775808 then x % 18446744073709551616 - 18446744073709551616 else x % 18446744073709551616 := by
    unfold IntKind.wrap
    simp [IntKind.signed, IntKind.bits]
  rw [e]
  split <;> omega

/-- how much there is of it -/
def bulk : (t : Ty) → t.den → Nat
  | .int _, _ => 0
  | .bool, _ => 0
  | .str, s => s.size
  | .sl t, l => l.length + (l.map (bulk t)).sum
  | .unit, _ => 0
  | .pair a b, x => bulk a x.1 + bulk b x.2
  | .st t, x => bulk t x

def szr (b : Nat) (s : Int) : Int := if (b : Int) ≤ s then s - b else -1

theorem Sz.done {s : Int} (h0 : 0 ≤ s) : Says (fun _ => some s) (szr 0 s) := by
  have : szr 0 s = s := by unfold szr; rw [if_pos (by simpa using h0)]; simp
  rw [this]; exact .now s
theorem Sz.zero {f : Nat → Option Int} {b : Nat} {s : Int} (h : Says f (szr b s)) : Says f (szr (0 + b) s) := by rw [Nat.zero_add]; exact h
theorem Sz.len {Y : Nat → Option Int} {k b : Nat} {s : Int} (hk : k ≤ maxLen) (h0 : 0 ≤ s) (h1 : s ≤ 1048576)
    (hX : ∀ s', 0 ≤ s' → s' ≤ 1048576 → IntKind.i64.wrap (s - k) = s' → Says Y (szr b s')) : Says (fun n => cond (decide (IntKind.i64.wrap (s - k) < 0)) (some (-1)) (Y n)) (szr (k + b) s) := by
  have hm : maxLen = 9223372036854775807 := rfl
  have e : IntKind.i64.wrap (s - k) = s - k := wrap_id (by omega) (by omega)
  by_cases h : (k : Int) ≤ s
  · refine Says.neg (by omega) ?_
    have := hX (s - k) (by omega) (by omega) e
    have e2 : szr (k + b) s = szr b (s - k) := by unfold szr; split <;> split <;> omega
    rw [e2]; exact this
  · have e2 : szr (k + b) s = -1 := by unfold szr; rw [if_neg (by omega)]
    rw [e2]
    exact Says.pos (by omega) (.now _)
theorem Sz.call {A : Nat → Option Int} {Y : Nat → Int → Option Int} {k b : Nat} {s : Int} (hA : Says A (szr k s)) (h0 : 0 ≤ s) (h1 : s ≤ 1048576)
    (hX : ∀ s', 0 ≤ s' → s' ≤ 1048576 → Says (fun n => Y n s') (szr b s')) : Says (fun n => (A n).bind fun r => cond (decide (r < 0)) (some (-1)) (Y n r)) (szr (k + b) s) := by
  refine Says.bind hA ?_
  by_cases h : (k : Int) ≤ s
  · have e : szr k s = s - k := if_pos h
    rw [e]
    refine Says.neg (by omega) ?_
    have e2 : szr (k + b) s = szr b (s - k) := by unfold szr; split <;> split <;> omega
    rw [e2]; exact hX _ (by omega) (by omega)
  · have e : szr k s = -1 := if_neg h
    have e2 : szr (k + b) s = -1 := by unfold szr; rw [if_neg (by omega)]
    rw [e2]
    exact Says.pos (by rw [e]; decide) (.now _)
/-- a last call, its answer handed on -/
theorem Sz.ret {A : Nat → Option Int} {k : Nat} {s : Int} (hA : Says A (szr k s)) : Says (fun n => (A n).bind fun r => cond (decide (r < 0)) (some (-1)) (some r)) (szr k s) := by
  refine Says.bind hA ?_
  by_cases h : szr k s < 0
  · refine Says.pos h ?_
    have : szr k s = -1 := by
      unfold szr at h ⊢
      split at h
      · omega
      · rename_i hh; rw [if_neg hh]
    rw [this]; exact .now _
  · exact Says.neg h (.now _)

theorem nth_at {t : Ty} {l : List t.den} {i : Nat} (h : i < l.length) : nth t l i = l[i] := by simp [nth, List.getD, h]

theorem sz_list {t : Ty} {F : Nat → List t.den → Int → Option Int} {L : Nat → List t.den → Int → Int → Option Int} {E : Nat → t.den → Int → Option Int}
    (hE : ∀ x s, good t x → 0 ≤ s → s ≤ 1048576 → Says (fun n => E n x s) (szr (bulk t x) s))
    (hF : ∀ n l s, F (n + 1) l s = cond (decide (IntKind.i64.wrap (s - (l.length : Int)) < 0)) (some (-1)) (L n l (IntKind.i64.wrap (s - (l.length : Int))) 0))
    (hL : ∀ n l s i, L (n + 1) l s i = cond (decide (i < (l.length : Int))) (cond (decide (0 ≤ i ∧ i < (l.length : Int))) ((E n (nth t l i.toNat) s).bind fun r => cond (decide (r < 0)) (some (-1)) (L n l r (IntKind.i64.wrap (i + 1)))) none) (some s))
    (l : List t.den) (s : Int) (g : good (.sl t) l) (h0 : 0 ≤ s) (h1 : s ≤ 1048576) : Says (fun n => F n l s) (szr (bulk (.sl t) l) s) := by
  have hm : maxLen = 9223372036854775807 := rfl
  obtain ⟨gl, ge⟩ := g
  have loop : ∀ (k i : Nat) (s : Int), i + k = l.length → 0 ≤ s → s ≤ 1048576 → Says (fun n => L n l s i) (szr (((l.drop i).map (bulk t)).sum) s) := by
    intro k
    induction k with
    | zero =>
      intro i s hi h0 h1
      refine Says.step (fun n => hL n l s i) (Says.neg (by omega) ?_)
      rw [List.drop_eq_nil_of_le (by omega)]
      exact Sz.done h0
    | succ k ih =>
      intro i s hi h0 h1
      refine Says.step (fun n => hL n l s i) (Says.pos (by omega) (Says.pos (by omega) ?_))
      rw [List.drop_eq_getElem_cons (by omega : i < l.length)]
      simp only [Int.toNat_natCast, List.map_cons, List.sum_cons]
      rw [nth_at (by omega : i < l.length)]
      have hi1 : IntKind.i64.wrap ((i : Int) + 1) = ((i + 1 : Nat) : Int) := by rw [wrap_id (by omega) (by omega)]; omega
      refine Sz.call (hE _ _ (ge _ (List.getElem_mem _)) h0 h1) h0 h1 fun s' a b => ?_
      rw [hi1]
      exact ih (i + 1) s' (by omega) a b
  refine Says.step (fun n => hF n l s) ?_
  show Says _ (szr (l.length + (l.map (bulk t)).sum) s)
  refine Sz.len gl h0 h1 fun s' a b e => ?_
  rw [e]
  exact loop l.length 0 s' (by omega) a b

theorem sz_strs {F : Nat → List ByteArray → Int → Option Int} {L : Nat → List ByteArray → Int → Int → Option Int}
    (hF : ∀ n l s, F (n + 1) l s = cond (decide (IntKind.i64.wrap (s - (l.length : Int)) < 0)) (some (-1)) (L n l (IntKind.i64.wrap (s - (l.length : Int))) 0))
    (hL : ∀ n l s i, L (n + 1) l s i = cond (decide (i < (l.length : Int))) (cond (decide (0 ≤ i ∧ i < (l.length : Int))) (cond (decide (IntKind.i64.wrap (s - ((nth .str l i.toNat).size : Int)) < 0)) (some (-1)) (L n l (IntKind.i64.wrap (s - ((nth .str l i.toNat).size : Int))) (IntKind.i64.wrap (i + 1)))) none) (some s))
    (l : List ByteArray) (s : Int) (g : good (.sl .str) l) (h0 : 0 ≤ s) (h1 : s ≤ 1048576) : Says (fun n => F n l s) (szr (bulk (.sl .str) l) s) := by
  have hm : maxLen = 9223372036854775807 := rfl
  obtain ⟨gl, ge⟩ := g
  have loop : ∀ (k i : Nat) (s : Int), i + k = l.length → 0 ≤ s → s ≤ 1048576 → Says (fun n => L n l s i) (szr (((l.drop i).map (bulk .str)).sum) s) := by
    intro k
    induction k with
    | zero =>
      intro i s hi h0 h1
      refine Says.step (fun n => hL n l s i) (Says.neg (by omega) ?_)
      rw [List.drop_eq_nil_of_le (by omega)]
      exact Sz.done h0
    | succ k ih =>
      intro i s hi h0 h1
      refine Says.step (fun n => hL n l s i) (Says.pos (by omega) (Says.pos (by omega) ?_))
      rw [List.drop_eq_getElem_cons (by omega : i < l.length)]
      have hn : nth .str l i = l[i] := nth_at (t := .str) (by omega : i < l.length)
      simp only [Int.toNat_natCast, List.map_cons, List.sum_cons, hn]
      have hi1 : IntKind.i64.wrap ((i : Int) + 1) = ((i + 1 : Nat) : Int) := by rw [wrap_id (by omega) (by omega)]; omega
      refine Sz.len (ge _ (List.getElem_mem _)) h0 h1 fun s' a b e => ?_
      rw [e, hi1]
      exact ih (i + 1) s' (by omega) a b
  refine Says.step (fun n => hF n l s) ?_
  show Says _ (szr (l.length + (l.map (bulk .str)).sum) s)
  refine Sz.len gl h0 h1 fun s' a b e => ?_
  rw [e]
  exact loop l.length 0 s' (by omega) a b

theorem bulk_mem {t : Ty} {l : List t.den} {x : t.den} (h : x ∈ l) : bulk t x ≤ (l.map (bulk t)).sum := by
  induction l with
  | nil => cases h
  | cons y l ih =>
    simp only [List.map_cons, List.sum_cons]
    rcases List.mem_cons.1 h with rfl | h
    · omega
    · have := ih h; omega

theorem set_next {β : Type} {l : List β} {i k : Nat} (d : β) (hi : i + (k + 1) = l.length) : (l.take i ++ List.replicate (k + 1) d).set i (l[i]'(by omega)) = l.take (i + 1) ++ List.replicate k d := by
  have hl : (l.take i).length = i := by simp; omega
  rw [List.set_append_right _ _ (by omega), hl, Nat.sub_self, List.replicate_succ, List.set_cons_zero]
  rw [List.take_succ_eq_append_getElem (by omega), List.append_assoc]
  rfl

/-- copies -/
theorem to_list {t : Ty} {F : Nat → List t.den → Option (List t.den)} {L : Nat → List t.den → Nat → Int → List t.den → Option (List t.den)} {E : Nat → t.den → Option t.den} {d : t.den}
    (hE : ∀ x, bulk t x ≤ 1048576 → Says (fun n => E n x) x)
    (hF : ∀ n l, F (n + 1) l = cond (decide (0 ≤ (l.length : Int) ∧ (l.length : Int) ≤ (l.length : Int) ∧ (l.length : Int) < 4294967296)) (L n l (List.replicate (l.length : Int).toNat d).length 0 (List.replicate (l.length : Int).toNat d)) none)
    (hL : ∀ n l m i out, L (n + 1) l m i out = cond (decide (i < (l.length : Int))) (cond (decide (0 ≤ i ∧ i < (l.length : Int))) ((E n (nth t l i.toNat)).bind fun r => cond (decide (0 ≤ i ∧ i < (m : Int))) (L n l m (IntKind.i64.wrap (i + 1)) (out.set i.toNat r)) none) none) (some out))
    (l : List t.den) (g : bulk (.sl t) l ≤ 1048576) : Says (fun n => F n l) l := by
  have g : l.length + (l.map (bulk t)).sum ≤ 1048576 := g
  have loop : ∀ (k i : Nat), i + k = l.length → Says (fun n => L n l l.length i (l.take i ++ List.replicate k d)) l := by
    intro k
    induction k with
    | zero =>
      intro i hi
      refine Says.step (fun n => hL n l _ i _) (Says.neg (by omega) ?_)
      rw [List.take_of_length_le (by omega)]
      simp only [List.replicate_zero, List.append_nil]
      exact .now _
    | succ k ih =>
      intro i hi
      refine Says.step (fun n => hL n l _ i _) (Says.pos (by omega) (Says.pos (by omega) ?_))
      simp only [Int.toNat_natCast]
      rw [nth_at (by omega : i < l.length)]
      have hi1 : IntKind.i64.wrap ((i : Int) + 1) = ((i + 1 : Nat) : Int) := by rw [wrap_id (by omega) (by omega)]; omega
      refine Says.bind (hE _ (by have := bulk_mem (t := t) (List.getElem_mem (by omega : i < l.length)); omega)) (Says.pos (by omega) ?_)
      rw [hi1, set_next d hi]
      exact ih (i + 1) (by omega)
  refine Says.step (fun n => hF n l) (Says.pos (by omega) ?_)
  simp only [Int.toNat_natCast, List.length_replicate]
  exact loop l.length 0 (by omega)
theorem to_strs {F : Nat → List ByteArray → Option (List ByteArray)} {L : Nat → List ByteArray → Nat → Int → List ByteArray → Option (List ByteArray)} {d : ByteArray}
    (hF : ∀ n l, F (n + 1) l = cond (decide (0 ≤ (l.length : Int) ∧ (l.length : Int) ≤ (l.length : Int) ∧ (l.length : Int) < 4294967296)) (L n l (List.replicate (l.length : Int).toNat d).length 0 (List.replicate (l.length : Int).toNat d)) none)
    (hL : ∀ n l m i out, L (n + 1) l m i out = cond (decide (i < (l.length : Int))) (cond (decide (0 ≤ i ∧ i < (l.length : Int))) (cond (decide (0 ≤ i ∧ i < (m : Int))) (L n l m (IntKind.i64.wrap (i + 1)) (out.set i.toNat (nth .str l i.toNat))) none) none) (some out))
    (l : List ByteArray) (g : bulk (.sl .str) l ≤ 1048576) : Says (fun n => F n l) l := by
  have g : l.length + (l.map (bulk .str)).sum ≤ 1048576 := g
  have loop : ∀ (k i : Nat), i + k = l.length → Says (fun n => L n l l.length i (l.take i ++ List.replicate k d)) l := by
    intro k
    induction k with
    | zero =>
      intro i hi
      refine Says.step (fun n => hL n l _ i _) (Says.neg (by omega) ?_)
      rw [List.take_of_length_le (by omega)]
      simp only [List.replicate_zero, List.append_nil]
      exact .now _
    | succ k ih =>
      intro i hi
      refine Says.step (fun n => hL n l _ i _) (Says.pos (by omega) (Says.pos (by omega) (Says.pos (by omega) ?_)))
      simp only [Int.toNat_natCast]
      rw [nth_at (t := .str) (by omega : i < l.length)]
      have hi1 : IntKind.i64.wrap ((i : Int) + 1) = ((i + 1 : Nat) : Int) := by rw [wrap_id (by omega) (by omega)]; omega
      rw [hi1, set_next d hi]
      exact ih (i + 1) (by omega)
  refine Says.step (fun n => hF n l) (Says.pos (by omega) ?_)
  simp only [Int.toNat_natCast, List.length_replicate]
  exact loop l.length 0 (by omega)

/-- comparisons with itself -/
theorem eq_list {t : Ty} {F : Nat → List t.den → List t.den → Option Bool} {L : Nat → List t.den → List t.den → Int → Option Bool} {E : Nat → t.den → t.den → Option Bool}
    (hE : ∀ x, bulk t x ≤ 9223372036854775806 → Says (fun n => E n x x) true)
    (hF : ∀ n a b, F (n + 1) a b = cond ((a.length : Int) != (b.length : Int)) (some false) (L n a b 0))
    (hL : ∀ n a b i, L (n + 1) a b i = cond (decide (i < (a.length : Int))) (cond (decide (0 ≤ i ∧ i < (a.length : Int))) (cond (decide (0 ≤ i ∧ i < (b.length : Int))) ((E n (nth t a i.toNat) (nth t b i.toNat)).bind fun r => cond (!r) (some false) (L n a b (IntKind.i64.wrap (i + 1)))) none) none) (some true))
    (l : List t.den) (g : bulk (.sl t) l ≤ 9223372036854775806) : Says (fun n => F n l l) true := by
  have g : l.length + (l.map (bulk t)).sum ≤ 9223372036854775806 := g
  have loop : ∀ (k i : Nat), i + k = l.length → Says (fun n => L n l l i) true := by
    intro k
    induction k with
    | zero =>
      intro i hi
      exact Says.step (fun n => hL n l _ i) (Says.neg (by omega) (.now _))
    | succ k ih =>
      intro i hi
      refine Says.step (fun n => hL n l _ i) (Says.pos (by omega) (Says.pos (by omega) (Says.pos (by omega) ?_)))
      simp only [Int.toNat_natCast]
      rw [nth_at (by omega : i < l.length)]
      have hi1 : IntKind.i64.wrap ((i : Int) + 1) = ((i + 1 : Nat) : Int) := by rw [wrap_id (by omega) (by omega)]; omega
      refine Says.bind (hE _ (by have := bulk_mem (t := t) (List.getElem_mem (by omega : i < l.length)); omega)) (Says.condF rfl ?_)
      rw [hi1]
      exact ih (i + 1) (by omega)
  exact Says.step (fun n => hF n l l) (Says.condF (by simp) (loop l.length 0 (by omega)))
theorem eq_strs {F : Nat → List ByteArray → List ByteArray → Option Bool} {L : Nat → List ByteArray → List ByteArray → Int → Option Bool}
    (hF : ∀ n a b, F (n + 1) a b = cond ((a.length : Int) != (b.length : Int)) (some false) (L n a b 0))
    (hL : ∀ n a b i, L (n + 1) a b i = cond (decide (i < (a.length : Int))) (cond (decide (0 ≤ i ∧ i < (a.length : Int))) (cond (decide (0 ≤ i ∧ i < (b.length : Int))) (cond (!((nth .str a i.toNat).toList == (nth .str b i.toNat).toList)) (some false) (L n a b (IntKind.i64.wrap (i + 1)))) none) none) (some true))
    (l : List ByteArray) (g : bulk (.sl .str) l ≤ 9223372036854775806) : Says (fun n => F n l l) true := by
  have g : l.length + (l.map (bulk .str)).sum ≤ 9223372036854775806 := g
  have loop : ∀ (k i : Nat), i + k = l.length → Says (fun n => L n l l i) true := by
    intro k
    induction k with
    | zero =>
      intro i hi
      exact Says.step (fun n => hL n l _ i) (Says.neg (by omega) (.now _))
    | succ k ih =>
      intro i hi
      have hi1 : IntKind.i64.wrap ((i : Int) + 1) = ((i + 1 : Nat) : Int) := by rw [wrap_id (by omega) (by omega)]; omega
      refine Says.step (fun n => hL n l _ i) (Says.pos (by omega) (Says.pos (by omega) (Says.pos (by omega) (Says.condF (by simp) ?_))))
      rw [hi1]
      exact ih (i + 1) (by omega)
  exact Says.step (fun n => hF n l l) (Says.condF (by simp) (loop l.length 0 (by omega)))

/-- the law's call -/
theorem row_calls {P : Program} {E : Env} {call : (g : FuncId) → List AV → Hp → Option (Ret E g)} (hc : CallOk P E call) {f : FuncId} {fi : FI} (hf : E.fi f = some fi) {args : List AV} {vs : Array Value} {W : World} {x : Ret E f} (h : call f args [] = some x)
    (ha : All2 (VR2 (Lt W) W []) args vs.toList) (hg : GlobOk E (Lt W) W) : Calls P f vs W fun e w' => ∃ v, e = .returned v ∧ RetOk (Old W) fi.own (rtsOf E f) (backOf E f) (Lt W) [] W w' x v :=
  hc f fi args [] x (Old W) (Lt W) [] W vs hf h ha (HR_nil fun _ _ h => h) (Old.base W) hg
theorem ret_true {own : Bool} {F : Fz} {W W' : World} {v : Value} (h : RetOk (Old W) own [.bool] [] F [] W W' true v) : v = .bool true ∧ RowKit.Below W.heap.size W W' := by
  obtain ⟨F', g', h1, h2, h3⟩ := h
  refine ⟨?_, ⟨h1.below.os, h1.below.tape, h1.below.output, h1.below.size, fun k hk => h1.below.block k hk⟩⟩
  cases own <;> exact h3

/-- what bounds the bulk bounds the parts -/
theorem szr_pos {b : Nat} {s : Int} (h : ¬ szr b s < 0) : (b : Int) ≤ s := by
  unfold szr at h
  split at h
  · assumption
  · omega
end Go.Proofs.YtjklgmflillagaaDoor.Ev
