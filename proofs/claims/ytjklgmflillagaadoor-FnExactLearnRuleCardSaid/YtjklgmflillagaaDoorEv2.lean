/- How the evaluator's values stand to the machine's: the relations, and that they last. -/
import Derived.Test.YtjklgmflillagaaDoorEv0
import Derived.Below
namespace Go.Proofs.YtjklgmflillagaaDoor.Ev
open Go Go.RowKit
set_option linter.unusedVariables false

inductive All2 {α β : Type} (R : α → β → Prop) : List α → List β → Prop where
  | nil : All2 R [] []
  | cons {a b l m} : R a b → All2 R l m → All2 R (a :: l) (b :: m)

section
variable {α β γ : Type} {R S : α → β → Prop}
theorem All2.length {l : List α} {m : List β} (h : All2 R l m) : l.length = m.length := by
  induction h with
  | nil => rfl
  | cons _ _ ih => simp [ih]
theorem All2.mono {l : List α} {m : List β} (h : All2 R l m) (hm : ∀ a b, R a b → S a b) : All2 S l m := by
  induction h with
  | nil => exact .nil
  | cons h _ ih => exact .cons (hm _ _ h) ih
theorem All2.get {l : List α} {m : List β} (h : All2 R l m) : ∀ (i : Nat) (a : α), l[i]? = some a → ∃ b, m[i]? = some b ∧ R a b := by
  induction h with
  | nil => intro i a h; simp at h
  | cons h _ ih =>
    intro i a hi
    cases i with
    | zero => simp at hi; subst hi; exact ⟨_, rfl, h⟩
    | succ i => simpa using ih i a (by simpa using hi)
theorem All2.getR {l : List α} {m : List β} (h : All2 R l m) : ∀ (i : Nat) (b : β), m[i]? = some b → ∃ a, l[i]? = some a ∧ R a b := by
  induction h with
  | nil => intro i a h; simp at h
  | cons h _ ih =>
    intro i a hi
    cases i with
    | zero => simp at hi; subst hi; exact ⟨_, rfl, h⟩
    | succ i => simpa using ih i a (by simpa using hi)
theorem All2.append {l l' : List α} {m m' : List β} (h : All2 R l m) (h' : All2 R l' m') : All2 R (l ++ l') (m ++ m') := by
  induction h with
  | nil => exact h'
  | cons h _ ih => exact .cons h ih
theorem All2.take {l : List α} {m : List β} (h : All2 R l m) : ∀ n, All2 R (l.take n) (m.take n) := by
  induction h with
  | nil => intro n; simpa using All2.nil
  | cons h _ ih =>
    intro n
    cases n with
    | zero => exact .nil
    | succ n => exact .cons h (ih n)
theorem All2.drop {l : List α} {m : List β} (h : All2 R l m) : ∀ n, All2 R (l.drop n) (m.drop n) := by
  induction h with
  | nil => intro n; simpa using All2.nil
  | cons h t ih =>
    intro n
    cases n with
    | zero => exact .cons h t
    | succ n => exact ih n
theorem All2.set {l : List α} {m : List β} (h : All2 R l m) {a : α} {b : β} (hab : R a b) : ∀ n, All2 R (l.set n a) (m.set n b) := by
  induction h with
  | nil => intro n; simpa using All2.nil
  | cons h t ih =>
    intro n
    cases n with
    | zero => exact .cons hab t
    | succ n => exact .cons h (ih n)
theorem All2.map {δ : Type} {T : γ → δ → Prop} {l : List α} {m : List β} (h : All2 R l m) (f : α → γ) (g : β → δ) (hm : ∀ a b, R a b → T (f a) (g b)) : All2 T (l.map f) (m.map g) := by
  induction h with
  | nil => exact .nil
  | cons h _ ih => exact .cons (hm _ _ h) ih
theorem All2.split {l : List α} : ∀ {l' : List α} {m : List β}, All2 R (l ++ l') m → ∃ m1 m2, m = m1 ++ m2 ∧ All2 R l m1 ∧ All2 R l' m2 := by
  induction l with
  | nil => intro l' m h; exact ⟨[], m, rfl, .nil, h⟩
  | cons a l ih =>
    intro l' m h
    cases h with
    | cons h t =>
      obtain ⟨m1, m2, rfl, h1, h2⟩ := ih t
      exact ⟨_ :: m1, m2, rfl, .cons h h1, h2⟩
theorem All2.replicate {a : α} {b : β} (h : R a b) : ∀ n, All2 R (List.replicate n a) (List.replicate n b)
  | 0 => .nil
  | n + 1 => .cons h (All2.replicate h n)
end

/-- Cells that are given for reading. -/
abbrev Fz := Nat → Nat → Prop
def Rows' (F : Fz) (w : World) (sz : Nat) {α : Type} (C : α → List Value → Prop) (A : Option Addr) (l : List α) : Prop :=
  ∀ i x, l[i]? = some x → ∃ ad, A = some ad ∧ ad.spot = none ∧ ∃ us, C x us ∧ us.length = sz ∧
    ∀ j u, us[j]? = some u → F ad.block (ad.off + (i * sz + j)) ∧ w.cell? ⟨ad.block, ad.off + (i * sz + j), none⟩ = some u

/-- Plain data, as the cells that hold it. -/
def CR (F : Fz) (w : World) : (t : Ty) → t.den → List Value → Prop
  | .int k, x, vs => vs = [.int k x]
  | .bool, b, vs => vs = [.bool b]
  | .str, s, vs => vs = [.string s]
  | .unit, _, vs => vs = []
  | .pair a b, x, vs => ∃ v1 v2, vs = v1 ++ v2 ∧ CR F w a x.1 v1 ∧ CR F w b x.2 v2
  | .st t, x, vs => CR F w t x vs
  | .sl t, l, vs => ∃ A c, vs = [.slice A l.length c] ∧ l.length ≤ c ∧ Rows' F w t.size (fun x us => CR F w t x us) A l

theorem CR_len {F : Fz} {w : World} : (t : Ty) → (x : t.den) → (vs : List Value) → CR F w t x vs → vs.length = t.size
  | .int _, _, _, h => by simp only [CR] at h; subst h; rfl
  | .bool, _, _, h => by simp only [CR] at h; subst h; rfl
  | .str, _, _, h => by simp only [CR] at h; subst h; rfl
  | .unit, _, _, h => by simp only [CR] at h; subst h; rfl
  | .sl _, _, _, h => by simp only [CR] at h; obtain ⟨_, _, rfl, _⟩ := h; rfl
  | .st t, x, vs, h => by simp only [CR] at h; simpa [Ty.size] using CR_len t x vs h
  | .pair a b, x, _, h => by
    simp only [CR] at h
    obtain ⟨v1, v2, rfl, h1, h2⟩ := h
    simp [Ty.size, CR_len a _ _ h1, CR_len b _ _ h2]

theorem Rows'_mono {F F' : Fz} {w w' : World} {sz : Nat} {α : Type} {C C' : α → List Value → Prop} {A : Option Addr} {l : List α}
    (hF : ∀ b o, F b o → F' b o) (hw : ∀ b o u, F b o → w.cell? ⟨b, o, none⟩ = some u → w'.cell? ⟨b, o, none⟩ = some u)
    (hC : ∀ x us, C x us → C' x us) (h : Rows' F w sz C A l) : Rows' F' w' sz C' A l := by
  intro i x hi
  obtain ⟨ad, hA, hs, us, hc, hl, hj⟩ := h i x hi
  exact ⟨ad, hA, hs, us, hC _ _ hc, hl, fun j u hu => ⟨hF _ _ (hj j u hu).1, hw _ _ _ (hj j u hu).1 (hj j u hu).2⟩⟩

theorem CR_mono {F F' : Fz} {w w' : World} (hF : ∀ b o, F b o → F' b o)
    (hw : ∀ b o u, F b o → w.cell? ⟨b, o, none⟩ = some u → w'.cell? ⟨b, o, none⟩ = some u) :
    (t : Ty) → (x : t.den) → (vs : List Value) → CR F w t x vs → CR F' w' t x vs
  | .int _, _, _, h => by simpa only [CR] using h
  | .bool, _, _, h => by simpa only [CR] using h
  | .str, _, _, h => by simpa only [CR] using h
  | .unit, _, _, h => by simpa only [CR] using h
  | .st t, x, vs, h => by simp only [CR] at h ⊢; exact CR_mono hF hw t x vs h
  | .pair a b, x, _, h => by
    simp only [CR] at h ⊢
    obtain ⟨v1, v2, rfl, h1, h2⟩ := h
    exact ⟨v1, v2, rfl, CR_mono hF hw a _ _ h1, CR_mono hF hw b _ _ h2⟩
  | .sl t, l, _, h => by
    simp only [CR] at h ⊢
    obtain ⟨A, c, rfl, hc, hr⟩ := h
    exact ⟨A, c, rfl, hc, Rows'_mono hF hw (fun x us => CR_mono hF hw t x us) hr⟩

/-- An own block: where it lies, its elements' size, how many it can bear, how many it holds. -/
structure GE where
  ad : Addr
  sz : Nat
  cap : Nat
  n : Nat

/-- The values of one cell. -/
def VR0 (F : Fz) (w : World) (g : List GE) : AV → Value → Prop
  | .int k x, v => v = .int k x
  | .bool b, v => v = .bool b
  | .str s, v => v = .string s
  | .sl t l, v => CR F w (.sl t) l [v]
  | .emp, v => ∃ A, v = .slice A 0 0
  | .all id sz n, v => ∃ e A, g[id]? = some e ∧ e.n = n ∧ e.sz = sz ∧ e.ad.spot = none ∧ v = .slice A n e.cap ∧ (0 < e.cap → A = some e.ad) ∧ n ≤ e.cap
  | .own id sz off n, v => ∃ e A, g[id]? = some e ∧ off + n ≤ e.n ∧ e.sz = sz ∧ e.n ≤ e.cap ∧ v = .slice A n (e.cap - off) ∧
      (0 < e.cap - off → A = some ⟨e.ad.block, e.ad.off + off * e.sz, none⟩)
  | .ptr id i, v => ∃ e, g[id]? = some e ∧ v = .pointer (some ⟨e.ad.block, i, none⟩)
  | .eptr id i j, v => ∃ e, g[id]? = some e ∧ i < e.n ∧ v = .pointer (some ⟨e.ad.block, e.ad.off + (i * e.sz + j), none⟩)
  | .aptr id sz n, v => ∃ e, g[id]? = some e ∧ e.n = n ∧ e.sz = sz ∧ e.cap = n ∧ v = .pointer (some ⟨e.ad.block, e.ad.off, none⟩)
  | .rptr t l i j, v => ∃ ad : Addr, v = .pointer (some ⟨ad.block, ad.off + (i * t.size + j), none⟩) ∧ i < l.length ∧ ad.spot = none ∧
      Rows' F w t.size (fun x us => CR F w t x us) (some ad) l
  | .raw u, v => v = u
  | .fn f cs, v => cs = [] ∧ v = .func (.func f) #[] #[]
  | .agg _, _ => False
  | .tup _, _ => False
  | .top, _ => True
def VR1 (F : Fz) (w : World) (g : List GE) : AV → Value → Prop
  | .agg cs, v => ∃ vs, v = .agg vs ∧ All2 (VR0 F w g) cs vs.toList
  | .fn f cs, v => ∃ vs, v = .func (.func f) #[] vs ∧ All2 (VR0 F w g) cs vs.toList
  | x, v => VR0 F w g x v
def VR2 (F : Fz) (w : World) (g : List GE) : AV → Value → Prop
  | .tup cs, v => ∃ vs, v = .tuple vs ∧ All2 (VR1 F w g) cs vs.toList
  | x, v => VR1 F w g x v

/-- The blocks of B are as they were; the streams are as they were; no block has gone. -/
structure Sam (B : Nat → Prop) (w w' : World) : Prop where
  os : w'.os = w.os
  tape : w'.tape = w.tape
  output : w'.output = w.output
  size : w.heap.size ≤ w'.heap.size
  block : ∀ k, B k → w'.heap[k]? = w.heap[k]?
theorem Sam.refl (B : Nat → Prop) (w : World) : Sam B w w := ⟨rfl, rfl, rfl, Nat.le_refl _, fun _ _ => rfl⟩
theorem Sam.trans {B : Nat → Prop} {a b c : World} (h : Sam B a b) (k : Sam B b c) : Sam B a c :=
  ⟨k.os.trans h.os, k.tape.trans h.tape, k.output.trans h.output, Nat.le_trans h.size k.size, fun i hi => (k.block i hi).trans (h.block i hi)⟩
theorem Sam.mono {B B' : Nat → Prop} {w w' : World} (h : Sam B w w') (hB : ∀ k, B' k → B k) : Sam B' w w' := ⟨h.os, h.tape, h.output, h.size, fun k hk => h.block k (hB k hk)⟩
def Bs (B : Nat → Prop) (w : World) : Prop := ∀ k, B k → k < w.heap.size
theorem Bs.mono {B : Nat → Prop} {w w' : World} (h : Bs B w) (hs : w.heap.size ≤ w'.heap.size) : Bs B w' := fun k hk => Nat.lt_of_lt_of_le (h k hk) hs
theorem Bs.fresh {B : Nat → Prop} {w : World} (h : Bs B w) : ¬ B w.heap.size := fun hk => Nat.lt_irrefl _ (h _ hk)
theorem Bs.out {B : Nat → Prop} {w : World} (h : Bs B w) {k : Nat} (hk : w.heap.size ≤ k) : ¬ B k := fun hb => by have := h k hb; omega
/-- the blocks that are there -/
def Old (w : World) : Nat → Prop := fun k => k < w.heap.size
theorem Old.base (w : World) : Bs (Old w) w := fun _ h => h

/-- How the state may go on: more cells are given for reading, those keep what they hold, more own blocks come; the blocks of B do not change. -/
structure Gr (B : Nat → Prop) (F : Fz) (g : List GE) (w : World) (F' : Fz) (g' : List GE) (w' : World) : Prop where
  up : ∀ b o, F b o → F' b o
  new : ∀ b o, F' b o → F b o ∨ ¬ B b
  cell : ∀ b o u, F b o → w.cell? ⟨b, o, none⟩ = some u → w'.cell? ⟨b, o, none⟩ = some u
  ext : ∀ (i : Nat) (e : GE), g[i]? = some e → g'[i]? = some e
  below : Sam B w w'
theorem Gr.refl (B : Nat → Prop) (F : Fz) (g : List GE) (w : World) : Gr B F g w F g w :=
  ⟨fun _ _ h => h, fun _ _ h => .inl h, fun _ _ _ _ h => h, fun _ _ h => h, Sam.refl _ _⟩
theorem Gr.trans {B : Nat → Prop} {F F' F'' : Fz} {g g' g'' : List GE} {w w' w'' : World} (h : Gr B F g w F' g' w') (k : Gr B F' g' w' F'' g'' w'') : Gr B F g w F'' g'' w'' :=
  ⟨fun b o x => k.up _ _ (h.up _ _ x), fun b o x => (k.new b o x).elim (h.new b o) .inr, fun b o u x y => k.cell _ _ _ (h.up _ _ x) (h.cell _ _ _ x y),
    fun i e x => k.ext _ _ (h.ext _ _ x), h.below.trans k.below⟩

theorem CR_gr {B : Nat → Prop} {F F' : Fz} {g g' : List GE} {w w' : World} (h : Gr B F g w F' g' w') {t : Ty} {x : t.den} {vs : List Value} (k : CR F w t x vs) : CR F' w' t x vs :=
  CR_mono h.up h.cell t x vs k
theorem VR0_gr {B : Nat → Prop} {F F' : Fz} {g g' : List GE} {w w' : World} (h : Gr B F g w F' g' w') {x : AV} {v : Value} (k : VR0 F w g x v) : VR0 F' w' g' x v := by
  cases x with
  | sl t l => exact CR_gr h k
  | all id sz n => obtain ⟨e, A, h1, h2⟩ := k; exact ⟨e, A, h.ext _ _ h1, h2⟩
  | own id sz off n => obtain ⟨e, A, h1, h2⟩ := k; exact ⟨e, A, h.ext _ _ h1, h2⟩
  | ptr id i => obtain ⟨e, h1, h2⟩ := k; exact ⟨e, h.ext _ _ h1, h2⟩
  | eptr id i j => obtain ⟨e, h1, h2⟩ := k; exact ⟨e, h.ext _ _ h1, h2⟩
  | aptr id sz n => obtain ⟨e, h1, h2⟩ := k; exact ⟨e, h.ext _ _ h1, h2⟩
  | rptr t l i j =>
    obtain ⟨ad, h1, h2, h3, h4⟩ := k
    exact ⟨ad, h1, h2, h3, Rows'_mono h.up h.cell (fun x us => CR_mono h.up h.cell t x us) h4⟩
  | _ => exact k
theorem VR1_gr {B : Nat → Prop} {F F' : Fz} {g g' : List GE} {w w' : World} (h : Gr B F g w F' g' w') {x : AV} {v : Value} (k : VR1 F w g x v) : VR1 F' w' g' x v := by
  cases x with
  | agg cs => obtain ⟨vs, h1, h2⟩ := k; exact ⟨vs, h1, h2.mono fun _ _ => VR0_gr h⟩
  | fn f cs => obtain ⟨vs, h1, h2⟩ := k; exact ⟨vs, h1, h2.mono fun _ _ => VR0_gr h⟩
  | _ => simp only [VR1] at k ⊢; exact VR0_gr h k
theorem VR2_gr {B : Nat → Prop} {F F' : Fz} {g g' : List GE} {w w' : World} (h : Gr B F g w F' g' w') {x : AV} {v : Value} (k : VR2 F w g x v) : VR2 F' w' g' x v := by
  cases x with
  | tup cs => obtain ⟨vs, h1, h2⟩ := k; exact ⟨vs, h1, h2.mono fun _ _ => VR1_gr h⟩
  | _ => simp only [VR2] at k ⊢; exact VR1_gr h k

/-! #### the own memory -/
def Real : Blk → GE → Prop
  | .var _, _ => True
  | .arr .., e => 0 < e.cap
  | .iter .., _ => True
  | .dead, _ => False
def BR (F : Fz) (w : World) (g : List GE) (e : GE) : Blk → Prop
  | .var cs => e.ad.off = 0 ∧ e.ad.spot = none ∧ ∃ vs el, w.heap[e.ad.block]? = some (.cells vs el (0, 0)) ∧ All2 (VR0 F w g) cs vs.toList
  | .arr t l b => e.sz = t.size ∧ e.n = l.length ∧ l.length ≤ e.cap ∧ e.ad.spot = none ∧
      (0 < e.cap → ∃ vs el, w.heap[e.ad.block]? = some (.cells vs el (0, 0)) ∧ e.ad.off + e.cap * t.size ≤ vs.size ∧
        ∀ i x, l[i]? = some x → ∃ us, CR F w t x us ∧ ∀ j u, us[j]? = some u → vs[e.ad.off + (i * t.size + j)]? = some u)
  | .iter s pos => e.ad.off = 0 ∧ e.ad.spot = none ∧ w.heap[e.ad.block]? = some (.stringIter s pos)
  | .dead => True

structure HR (B : Nat → Prop) (F : Fz) (w : World) (g : List GE) (H : Hp) : Prop where
  len : g.length = H.length
  blk : ∀ (i : Nat) b e, H[i]? = some b → g[i]? = some e → BR F w g e b
  own : ∀ (i : Nat) b e, H[i]? = some b → g[i]? = some e → Real b e → ¬ B e.ad.block ∧ e.ad.block < w.heap.size
  sep : ∀ (i j : Nat) b c e f, H[i]? = some b → H[j]? = some c → g[i]? = some e → g[j]? = some f → Real b e → Real c f → i ≠ j → e.ad.block ≠ f.ad.block
  frz : ∀ k o, F k o → k < w.heap.size ∧ ∀ (i : Nat) b e, H[i]? = some b → g[i]? = some e → Real b e → e.ad.block = k →
    ∃ t l, b = .arr t l true ∧ o < e.ad.off + l.length * t.size

theorem Addr.add_plain (a : Addr) (h : a.spot = none) (n : Nat) : a.add n = ⟨a.block, a.off + n, none⟩ := by
  obtain ⟨b, o, s⟩ := a
  simp only at h; subst h
  unfold Addr.add
  split
  · rename_i h; subst h; rfl
  · rfl

end Go.Proofs.YtjklgmflillagaaDoor.Ev
