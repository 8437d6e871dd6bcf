/- Plain lemmas on loops that answer from some number of rounds on (Ev). Nothing of Go in it. -/
import Derived.Test.YtjklgmflillagaaWWords
namespace Go.Proofs.Ytjklgmflillagaa.Pure
open Go.RowKit Go.Proofs.YtjklgmflillagaaW.PrintWords

theorem wrap_id {x : Int} (h0 : -9223372036854775808 ≤ x) (h1 : x ≤ 9223372036854775807) : wrap64 x = x := by unfold wrap64; omega
theorem wrap_up {i : Int} {n : Nat} (h0 : 0 ≤ i) (h : i < (n : Int)) (hn : n ≤ 9223372036854775807) : wrap64 (i + 1) = i + 1 := wrap_id (by omega) (by omega)

theorem Ev.unique {α : Type} {g : Nat → Option α} {r r' : α} (h : Ev g r) (h' : Ev g r') : r = r' := by
  obtain ⟨K, h⟩ := h
  obtain ⟨K', h'⟩ := h'
  have a := h (max K K') (by omega)
  have b := h' (max K K') (by omega)
  rw [a] at b
  exact Option.some.inj b
/-- What has no rounds. -/
theorem Ev.const {α : Type} {g : Option α} {r : α} (h : g = some r) : Ev (fun _ => g) r := ⟨0, fun _ _ => h⟩
theorem Ev.ofEq {α : Type} {g : Nat → Option α} {r : α} (h : ∀ k, g k = some r) : Ev g r := ⟨0, fun k _ => h k⟩
theorem Ev.cast {α : Type} {g : Nat → Option α} {r r' : α} (h : Ev g r) (e : r = r') : Ev g r' := e ▸ h
theorem Ev.pos {α : Type} {c : Prop} [Decidable c] {g f : Nat → Option α} {r : α} (hc : c) (h : Ev g r) : Ev (fun k => if c then g k else f k) r := Ev.congr (fun _ => if_pos hc) h
theorem Ev.neg {α : Type} {c : Prop} [Decidable c] {g f : Nat → Option α} {r : α} (hc : ¬ c) (h : Ev f r) : Ev (fun k => if c then g k else f k) r := Ev.congr (fun _ => if_neg hc) h
/-- A call without rounds. -/
theorem Ev.call {α β : Type} {g : Option α} {f : Nat → α → Option β} {a : α} {r : β} (h : g = some a) (k : Ev (fun n => f n a) r) : Ev (fun n => g.bind (f n)) r := Ev.congr (fun _ => by rw [h]; rfl) k

/-- A loop that counts up to n and answers, at the end or earlier, what F says. -/
theorem up_loop {ρ : Type} (L : Nat → Int → Option ρ) (n : Nat) (F : Nat → ρ)
    (hend : ∀ k, L (k + 1) (n : Int) = some (F n))
    (hstep : ∀ i : Nat, i < n → (∀ k, L (k + 1) (i : Int) = some (F i)) ∨ ((∀ k, L (k + 1) (i : Int) = L k ((i : Int) + 1)) ∧ F i = F (i + 1))) :
    ∀ i : Nat, i ≤ n → Ev (fun k => L k (i : Int)) (F i) := by
  intro i hi
  obtain ⟨d, rfl⟩ : ∃ d, n = i + d := ⟨n - i, by omega⟩
  clear hi
  induction d generalizing i with
  | zero => exact Ev.step (f := fun _ => some (F i)) (fun k => by have := hend k; simpa using this) (Ev.now _)
  | succ d ih =>
    rcases hstep i (by omega) with h | ⟨h, e⟩
    · exact Ev.step (f := fun _ => some (F i)) h (Ev.now _)
    · rw [e]
      refine Ev.step (f := fun k => L k ((i : Int) + 1)) h ?_
      have := ih (i + 1) (by rw [show i + 1 + d = i + (d + 1) by omega]; exact hend) (fun j hj => hstep j (by omega))
      have e2 : (((i + 1 : Nat)) : Int) = (i : Int) + 1 := by omega
      rw [e2] at this
      exact this

/-- The first index below n at which q is so: res there; e, if there is none. -/
def firstAt {ρ : Type} (q : Nat → Bool) (res : Nat → ρ) (e : ρ) : Nat → Nat → ρ
  | _, 0 => e
  | i, d + 1 => if q i then res i else firstAt q res e (i + 1) d
theorem find_loop {ρ : Type} (L : Nat → Int → Option ρ) (n : Nat) (q : Nat → Bool) (res : Nat → ρ) (e : ρ)
    (hend : ∀ k, L (k + 1) (n : Int) = some e)
    (hstep : ∀ k (i : Nat), i < n → L (k + 1) (i : Int) = if q i = true then some (res i) else L k ((i : Int) + 1)) :
    Ev (fun k => L k 0) (firstAt q res e 0 n) := by
  have := up_loop L n (fun i => firstAt q res e i (n - i)) (by intro k; simp [firstAt, hend]) (fun i hi => by
    obtain ⟨d, hd⟩ : ∃ d, n - i = d + 1 := ⟨n - i - 1, by omega⟩
    have hd' : n - (i + 1) = d := by omega
    simp only [hd, hd', firstAt]
    by_cases hq : q i = true
    · exact .inl fun k => by rw [hstep k i hi, if_pos hq, if_pos hq]
    · exact .inr ⟨fun k => by rw [hstep k i hi, if_neg hq], if_neg hq⟩) 0 (by omega)
  simpa using this

/-- A list that is filled, element by element. -/
theorem fill_loop {α β : Type} (L : Nat → List β → Int → Option (List β)) (xs : List α) (c : α → β) (z : β)
    (hend : ∀ k ys, ys.length = xs.length → L (k + 1) ys (xs.length : Int) = some ys)
    (hstep : ∀ k ys (i : Nat) (h : i < xs.length), ys.length = xs.length → L (k + 1) ys (i : Int) = L k (ys.set i (c xs[i])) ((i : Int) + 1)) :
    Ev (fun k => L k (List.replicate xs.length z) 0) (xs.map c) := by
  have key : ∀ (d i : Nat) (ys : List β), i + d = xs.length → ys.length = xs.length → ys.take i = (xs.map c).take i → Ev (fun k => L k ys (i : Int)) (xs.map c) := by
    intro d
    induction d with
    | zero =>
      intro i ys hi hl ht
      obtain rfl : i = xs.length := by omega
      rw [List.take_of_length_le (by omega), List.take_of_length_le (by simp)] at ht
      exact Ev.step (f := fun _ => some (xs.map c)) (fun k => by rw [hend k ys hl, ht]) (Ev.now _)
    | succ d ih =>
      intro i ys hi hl ht
      have hlt : i < xs.length := by omega
      refine Ev.step (f := fun k => L k (ys.set i (c xs[i])) ((i : Int) + 1)) (fun k => hstep k ys i hlt hl) ?_
      have := ih (i + 1) (ys.set i (c xs[i])) (by omega) (by simpa using hl) (by
        rw [List.take_add_one, List.take_add_one, List.take_set_of_le (Nat.le_refl i), ht]
        congr 1
        simp [hl, hlt])
      have e2 : (((i + 1 : Nat)) : Int) = (i : Int) + 1 := by omega
      rw [e2] at this
      exact this
  simpa using key xs.length 0 (List.replicate xs.length z) (by omega) (by simp) (by simp)

/-- A count that falls: what is left, or -1; the walk ends whatever the elements are. -/
theorem fall_loop {α : Type} (L : Nat → Int → Int → Option Int) (xs : List α) (g : α → Int → Int)
    (hend : ∀ k a, L (k + 1) a (xs.length : Int) = some a)
    (hstep : ∀ k a (i : Nat) (h : i < xs.length), 0 ≤ a → a ≤ 1048576 → L (k + 1) a (i : Int) = if g xs[i] a < 0 then some (-1) else L k (g xs[i] a) ((i : Int) + 1))
    (hg : ∀ x ∈ xs, ∀ a, 0 ≤ a → a ≤ 1048576 → g x a ≤ a) :
    ∀ a, 0 ≤ a → a ≤ 1048576 → ∃ r, Ev (fun k => L k a 0) r ∧ r ≤ a ∧ (r < 0 → r = -1) := by
  have key : ∀ (d i : Nat) (a : Int), i + d = xs.length → 0 ≤ a → a ≤ 1048576 → ∃ r, Ev (fun k => L k a (i : Int)) r ∧ r ≤ a ∧ (r < 0 → r = -1) := by
    intro d
    induction d with
    | zero =>
      intro i a hi h0 h1
      obtain rfl : i = xs.length := by omega
      exact ⟨a, Ev.step (f := fun _ => some a) (fun k => hend k a) (Ev.now _), by omega, by omega⟩
    | succ d ih =>
      intro i a hi h0 h1
      have hlt : i < xs.length := by omega
      have hle := hg xs[i] (List.getElem_mem hlt) a h0 h1
      by_cases hn : g xs[i] a < 0
      · exact ⟨-1, Ev.step (f := fun _ => some (-1)) (fun k => by rw [hstep k a i hlt h0 h1, if_pos hn]) (Ev.now _), by omega, by omega⟩
      · obtain ⟨r, hr, h2, h3⟩ := ih (i + 1) (g xs[i] a) (by omega) (by omega) (by omega)
        refine ⟨r, ?_, by omega, h3⟩
        refine Ev.step (f := fun k => L k (g xs[i] a) ((i : Int) + 1)) (fun k => by rw [hstep k a i hlt h0 h1, if_neg hn]) ?_
        have e2 : (((i + 1 : Nat)) : Int) = (i : Int) + 1 := by omega
        rw [e2] at hr
        exact hr
  intro a h0 h1
  simpa using key xs.length 0 a (by omega) h0 h1

/-- Two lists that are one are found the same. -/
theorem same_loop (L : Nat → Int → Option Bool) (n : Nat) (hend : ∀ k, L (k + 1) (n : Int) = some true) (hstep : ∀ k (i : Nat), i < n → L (k + 1) (i : Int) = L k ((i : Int) + 1)) : Ev (fun k => L k 0) true := by
  have := up_loop L n (fun _ => true) hend (fun i hi => .inr ⟨fun k => hstep k i hi, rfl⟩) 0 (by omega)
  simpa using this
end Go.Proofs.Ytjklgmflillagaa.Pure
