/- The evaluator: Ev2, Ev3, Ev4, Ev5, Ev6, Ev7. -/
import Derived.Test.YtmojilihllhadaaGreatDoorEv0
import Derived.Below
import Derived.Laws.StructEq
import Derived.RowKit3
import Derived.Laws.Cells
import Derived.Laws.CopyRow
/- How the evaluator's values stand to the machine's: the relations, and that they last. -/
namespace Go.Proofs.YtmojilihllhadaaGreatDoor.Ev
open Go Go.RowKit
set_option linter.unusedVariables false
inductive All2 {α β : Type} (R : α → β → Prop) : List α → List β → Prop where
  | nil : All2 R [] []
  | cons {a b l m} : R a b → All2 R l m → All2 R (a :: l) (b :: m)
section
variable {α β γ : Type} {R S : α → β → Prop}
theorem All2.length {l : List α} {m : List β} (h : All2 R l m) : l.length = m.length := by
  induction h with
  | nil => rfl
  | cons _ _ ih => simp [ih]
theorem All2.mono {l : List α} {m : List β} (h : All2 R l m) (hm : ∀ a b, R a b → S a b) : All2 S l m := by
  induction h with
  | nil => exact .nil
  | cons h _ ih => exact .cons (hm _ _ h) ih
theorem All2.get {l : List α} {m : List β} (h : All2 R l m) : ∀ (i : Nat) (a : α), l[i]? = some a → ∃ b, m[i]? = some b ∧ R a b := by
  induction h with
  | nil => intro i a h; simp at h
  | cons h _ ih =>
    intro i a hi
    cases i with
    | zero => simp at hi; subst hi; exact ⟨_, rfl, h⟩
    | succ i => simpa using ih i a (by simpa using hi)
theorem All2.getR {l : List α} {m : List β} (h : All2 R l m) : ∀ (i : Nat) (b : β), m[i]? = some b → ∃ a, l[i]? = some a ∧ R a b := by
  induction h with
  | nil => intro i a h; simp at h
  | cons h _ ih =>
    intro i a hi
    cases i with
    | zero => simp at hi; subst hi; exact ⟨_, rfl, h⟩
    | succ i => simpa using ih i a (by simpa using hi)
theorem All2.append {l l' : List α} {m m' : List β} (h : All2 R l m) (h' : All2 R l' m') : All2 R (l ++ l') (m ++ m') := by
  induction h with
  | nil => exact h'
  | cons h _ ih => exact .cons h ih
theorem All2.take {l : List α} {m : List β} (h : All2 R l m) : ∀ n, All2 R (l.take n) (m.take n) := by
  induction h with
  | nil => intro n; simpa using All2.nil
  | cons h _ ih =>
    intro n
    cases n with
    | zero => exact .nil
    | succ n => exact .cons h (ih n)
theorem All2.drop {l : List α} {m : List β} (h : All2 R l m) : ∀ n, All2 R (l.drop n) (m.drop n) := by
  induction h with
  | nil => intro n; simpa using All2.nil
  | cons h t ih =>
    intro n
    cases n with
    | zero => exact .cons h t
    | succ n => exact ih n
theorem All2.set {l : List α} {m : List β} (h : All2 R l m) {a : α} {b : β} (hab : R a b) : ∀ n, All2 R (l.set n a) (m.set n b) := by
  induction h with
  | nil => intro n; simpa using All2.nil
  | cons h t ih =>
    intro n
    cases n with
    | zero => exact .cons hab t
    | succ n => exact .cons h (ih n)
theorem All2.map {δ : Type} {T : γ → δ → Prop} {l : List α} {m : List β} (h : All2 R l m) (f : α → γ) (g : β → δ) (hm : ∀ a b, R a b → T (f a) (g b)) : All2 T (l.map f) (m.map g) := by
  induction h with
  | nil => exact .nil
  | cons h _ ih => exact .cons (hm _ _ h) ih
theorem All2.split {l : List α} : ∀ {l' : List α} {m : List β}, All2 R (l ++ l') m → ∃ m1 m2, m = m1 ++ m2 ∧ All2 R l m1 ∧ All2 R l' m2 := by
  induction l with
  | nil => intro l' m h; exact ⟨[], m, rfl, .nil, h⟩
  | cons a l ih =>
    intro l' m h
    cases h with
    | cons h t =>
      obtain ⟨m1, m2, rfl, h1, h2⟩ := ih t
      exact ⟨_ :: m1, m2, rfl, .cons h h1, h2⟩
theorem All2.replicate {a : α} {b : β} (h : R a b) : ∀ n, All2 R (List.replicate n a) (List.replicate n b)
  | 0 => .nil
  | n + 1 => .cons h (All2.replicate h n)
end
abbrev Fz := Nat → Nat → Prop
def Rows' (F : Fz) (w : World) (sz : Nat) {α : Type} (C : α → List Value → Prop) (A : Option Addr) (l : List α) : Prop :=
  ∀ i x, l[i]? = some x → ∃ ad, A = some ad ∧ ad.spot = none ∧ ∃ us, C x us ∧ us.length = sz ∧
    ∀ j u, us[j]? = some u → F ad.block (ad.off + (i * sz + j)) ∧ w.cell? ⟨ad.block, ad.off + (i * sz + j), none⟩ = some u
def CR (F : Fz) (w : World) : (t : Ty) → t.den → List Value → Prop
  | .int k, x, vs => vs = [.int k x]
  | .bool, b, vs => vs = [.bool b]
  | .str, s, vs => vs = [.string s]
  | .unit, _, vs => vs = []
  | .pair a b, x, vs => ∃ v1 v2, vs = v1 ++ v2 ∧ CR F w a x.1 v1 ∧ CR F w b x.2 v2
  | .st t, x, vs => CR F w t x vs
  | .sl t, l, vs => ∃ A c, vs = [.slice A l.length c] ∧ l.length ≤ c ∧ Rows' F w t.size (fun x us => CR F w t x us) A l
theorem CR_len {F : Fz} {w : World} : (t : Ty) → (x : t.den) → (vs : List Value) → CR F w t x vs → vs.length = t.size
  | .int _, _, _, h => by simp only [CR] at h; subst h; rfl
  | .bool, _, _, h => by simp only [CR] at h; subst h; rfl
  | .str, _, _, h => by simp only [CR] at h; subst h; rfl
  | .unit, _, _, h => by simp only [CR] at h; subst h; rfl
  | .sl _, _, _, h => by simp only [CR] at h; obtain ⟨_, _, rfl, _⟩ := h; rfl
  | .st t, x, vs, h => by simp only [CR] at h; simpa [Ty.size] using CR_len t x vs h
  | .pair a b, x, _, h => by
    simp only [CR] at h
    obtain ⟨v1, v2, rfl, h1, h2⟩ := h
    simp [Ty.size, CR_len a _ _ h1, CR_len b _ _ h2]
theorem Rows'_mono {F F' : Fz} {w w' : World} {sz : Nat} {α : Type} {C C' : α → List Value → Prop} {A : Option Addr} {l : List α}
    (hF : ∀ b o, F b o → F' b o) (hw : ∀ b o u, F b o → w.cell? ⟨b, o, none⟩ = some u → w'.cell? ⟨b, o, none⟩ = some u)
    (hC : ∀ x us, C x us → C' x us) (h : Rows' F w sz C A l) : Rows' F' w' sz C' A l := by
  intro i x hi
  obtain ⟨ad, hA, hs, us, hc, hl, hj⟩ := h i x hi
  exact ⟨ad, hA, hs, us, hC _ _ hc, hl, fun j u hu => ⟨hF _ _ (hj j u hu).1, hw _ _ _ (hj j u hu).1 (hj j u hu).2⟩⟩
theorem CR_mono {F F' : Fz} {w w' : World} (hF : ∀ b o, F b o → F' b o)
    (hw : ∀ b o u, F b o → w.cell? ⟨b, o, none⟩ = some u → w'.cell? ⟨b, o, none⟩ = some u) :
    (t : Ty) → (x : t.den) → (vs : List Value) → CR F w t x vs → CR F' w' t x vs
  | .int _, _, _, h => by simpa only [CR] using h
  | .bool, _, _, h => by simpa only [CR] using h
  | .str, _, _, h => by simpa only [CR] using h
  | .unit, _, _, h => by simpa only [CR] using h
  | .st t, x, vs, h => by simp only [CR] at h ⊢; exact CR_mono hF hw t x vs h
  | .pair a b, x, _, h => by
    simp only [CR] at h ⊢
    obtain ⟨v1, v2, rfl, h1, h2⟩ := h
    exact ⟨v1, v2, rfl, CR_mono hF hw a _ _ h1, CR_mono hF hw b _ _ h2⟩
  | .sl t, l, _, h => by
    simp only [CR] at h ⊢
    obtain ⟨A, c, rfl, hc, hr⟩ := h
    exact ⟨A, c, rfl, hc, Rows'_mono hF hw (fun x us => CR_mono hF hw t x us) hr⟩
structure GE where
  ad : Addr
  sz : Nat
  cap : Nat
  n : Nat
def VR0 (F : Fz) (w : World) (g : List GE) : AV → Value → Prop
  | .int k x, v => v = .int k x
  | .bool b, v => v = .bool b
  | .str s, v => v = .string s
  | .sl t l, v => CR F w (.sl t) l [v]
  | .emp, v => ∃ A, v = .slice A 0 0
  | .all id sz n, v => ∃ e A, g[id]? = some e ∧ e.n = n ∧ e.sz = sz ∧ e.ad.spot = none ∧ v = .slice A n e.cap ∧ (0 < e.cap → A = some e.ad) ∧ n ≤ e.cap
  | .own id sz off n, v => ∃ e A, g[id]? = some e ∧ off + n ≤ e.n ∧ e.sz = sz ∧ e.n ≤ e.cap ∧ v = .slice A n (e.cap - off) ∧
      (0 < e.cap - off → A = some ⟨e.ad.block, e.ad.off + off * e.sz, none⟩)
  | .ptr id i, v => ∃ e, g[id]? = some e ∧ v = .pointer (some ⟨e.ad.block, i, none⟩)
  | .eptr id i j, v => ∃ e, g[id]? = some e ∧ i < e.n ∧ v = .pointer (some ⟨e.ad.block, e.ad.off + (i * e.sz + j), none⟩)
  | .aptr id sz n, v => ∃ e, g[id]? = some e ∧ e.n = n ∧ e.sz = sz ∧ e.cap = n ∧ v = .pointer (some ⟨e.ad.block, e.ad.off, none⟩)
  | .rptr t l i j, v => ∃ ad : Addr, v = .pointer (some ⟨ad.block, ad.off + (i * t.size + j), none⟩) ∧ i < l.length ∧ ad.spot = none ∧
      Rows' F w t.size (fun x us => CR F w t x us) (some ad) l
  | .slf id, v => ∃ e, g[id]? = some e ∧ (v = .pointer none ∨ v = .pointer (some ⟨e.ad.block, 0, none⟩))
  | .mp id, v => ∃ e, g[id]? = some e ∧ v = .map (some e.ad.block)
  | .raw u, v => v = u
  | .fn f cs, v => cs = [] ∧ v = .func (.func f) #[] #[]
  | .agg _, _ => False
  | .tup _, _ => False
  | .top, _ => True
def VR1 (F : Fz) (w : World) (g : List GE) : AV → Value → Prop
  | .agg cs, v => ∃ vs, v = .agg vs ∧ All2 (VR0 F w g) cs vs.toList
  | .fn f cs, v => ∃ vs, v = .func (.func f) #[] vs ∧ All2 (VR0 F w g) cs vs.toList
  | x, v => VR0 F w g x v
def VR2 (F : Fz) (w : World) (g : List GE) : AV → Value → Prop
  | .tup cs, v => ∃ vs, v = .tuple vs ∧ All2 (VR1 F w g) cs vs.toList
  | x, v => VR1 F w g x v
structure Sam (B : Nat → Prop) (w w' : World) : Prop where
  os : w'.os = w.os
  tape : w'.tape = w.tape
  output : w'.output = w.output
  size : w.heap.size ≤ w'.heap.size
  block : ∀ k, B k → w'.heap[k]? = w.heap[k]?
theorem Sam.refl (B : Nat → Prop) (w : World) : Sam B w w := ⟨rfl, rfl, rfl, Nat.le_refl _, fun _ _ => rfl⟩
theorem Sam.trans {B : Nat → Prop} {a b c : World} (h : Sam B a b) (k : Sam B b c) : Sam B a c :=
  ⟨k.os.trans h.os, k.tape.trans h.tape, k.output.trans h.output, Nat.le_trans h.size k.size, fun i hi => (k.block i hi).trans (h.block i hi)⟩
theorem Sam.mono {B B' : Nat → Prop} {w w' : World} (h : Sam B w w') (hB : ∀ k, B' k → B k) : Sam B' w w' := ⟨h.os, h.tape, h.output, h.size, fun k hk => h.block k (hB k hk)⟩
def Bs (B : Nat → Prop) (w : World) : Prop := ∀ k, B k → k < w.heap.size
theorem Bs.mono {B : Nat → Prop} {w w' : World} (h : Bs B w) (hs : w.heap.size ≤ w'.heap.size) : Bs B w' := fun k hk => Nat.lt_of_lt_of_le (h k hk) hs
theorem Bs.fresh {B : Nat → Prop} {w : World} (h : Bs B w) : ¬ B w.heap.size := fun hk => Nat.lt_irrefl _ (h _ hk)
theorem Bs.out {B : Nat → Prop} {w : World} (h : Bs B w) {k : Nat} (hk : w.heap.size ≤ k) : ¬ B k := fun hb => by have := h k hb; omega
def Old (w : World) : Nat → Prop := fun k => k < w.heap.size
theorem Old.base (w : World) : Bs (Old w) w := fun _ h => h
structure Gr (B : Nat → Prop) (F : Fz) (g : List GE) (w : World) (F' : Fz) (g' : List GE) (w' : World) : Prop where
  up : ∀ b o, F b o → F' b o
  new : ∀ b o, F' b o → F b o ∨ ¬ B b
  cell : ∀ b o u, F b o → w.cell? ⟨b, o, none⟩ = some u → w'.cell? ⟨b, o, none⟩ = some u
  ext : ∀ (i : Nat) (e : GE), g[i]? = some e → g'[i]? = some e
  below : Sam B w w'
theorem Gr.refl (B : Nat → Prop) (F : Fz) (g : List GE) (w : World) : Gr B F g w F g w :=
  ⟨fun _ _ h => h, fun _ _ h => .inl h, fun _ _ _ _ h => h, fun _ _ h => h, Sam.refl _ _⟩
theorem Gr.trans {B : Nat → Prop} {F F' F'' : Fz} {g g' g'' : List GE} {w w' w'' : World} (h : Gr B F g w F' g' w') (k : Gr B F' g' w' F'' g'' w'') : Gr B F g w F'' g'' w'' :=
  ⟨fun b o x => k.up _ _ (h.up _ _ x), fun b o x => (k.new b o x).elim (h.new b o) .inr, fun b o u x y => k.cell _ _ _ (h.up _ _ x) (h.cell _ _ _ x y),
    fun i e x => k.ext _ _ (h.ext _ _ x), h.below.trans k.below⟩
theorem CR_gr {B : Nat → Prop} {F F' : Fz} {g g' : List GE} {w w' : World} (h : Gr B F g w F' g' w') {t : Ty} {x : t.den} {vs : List Value} (k : CR F w t x vs) : CR F' w' t x vs :=
  CR_mono h.up h.cell t x vs k
theorem VR0_gr {B : Nat → Prop} {F F' : Fz} {g g' : List GE} {w w' : World} (h : Gr B F g w F' g' w') {x : AV} {v : Value} (k : VR0 F w g x v) : VR0 F' w' g' x v := by
  cases x with
  | sl t l => exact CR_gr h k
  | all id sz n => obtain ⟨e, A, h1, h2⟩ := k; exact ⟨e, A, h.ext _ _ h1, h2⟩
  | own id sz off n => obtain ⟨e, A, h1, h2⟩ := k; exact ⟨e, A, h.ext _ _ h1, h2⟩
  | ptr id i => obtain ⟨e, h1, h2⟩ := k; exact ⟨e, h.ext _ _ h1, h2⟩
  | eptr id i j => obtain ⟨e, h1, h2⟩ := k; exact ⟨e, h.ext _ _ h1, h2⟩
  | aptr id sz n => obtain ⟨e, h1, h2⟩ := k; exact ⟨e, h.ext _ _ h1, h2⟩
  | slf id => obtain ⟨e, h1, h2⟩ := k; exact ⟨e, h.ext _ _ h1, h2⟩
  | mp id => obtain ⟨e, h1, h2⟩ := k; exact ⟨e, h.ext _ _ h1, h2⟩
  | rptr t l i j =>
    obtain ⟨ad, h1, h2, h3, h4⟩ := k
    exact ⟨ad, h1, h2, h3, Rows'_mono h.up h.cell (fun x us => CR_mono h.up h.cell t x us) h4⟩
  | _ => exact k
theorem VR1_gr {B : Nat → Prop} {F F' : Fz} {g g' : List GE} {w w' : World} (h : Gr B F g w F' g' w') {x : AV} {v : Value} (k : VR1 F w g x v) : VR1 F' w' g' x v := by
  cases x with
  | agg cs => obtain ⟨vs, h1, h2⟩ := k; exact ⟨vs, h1, h2.mono fun _ _ => VR0_gr h⟩
  | fn f cs => obtain ⟨vs, h1, h2⟩ := k; exact ⟨vs, h1, h2.mono fun _ _ => VR0_gr h⟩
  | _ => simp only [VR1] at k ⊢; exact VR0_gr h k
theorem VR2_gr {B : Nat → Prop} {F F' : Fz} {g g' : List GE} {w w' : World} (h : Gr B F g w F' g' w') {x : AV} {v : Value} (k : VR2 F w g x v) : VR2 F' w' g' x v := by
  cases x with
  | tup cs => obtain ⟨vs, h1, h2⟩ := k; exact ⟨vs, h1, h2.mono fun _ _ => VR1_gr h⟩
  | _ => simp only [VR2] at k ⊢; exact VR1_gr h k
/-! #### the own memory -/
def Real : Blk → GE → Prop
  | .var _ _, _ => True
  | .arr .., e => 0 < e.cap
  | .mp .., _ => True
  | .dead, _ => False
def BR (F : Fz) (w : World) (g : List GE) (e : GE) : Blk → Prop
  | .var T cs => e.ad.off = 0 ∧ e.ad.spot = none ∧ ∃ vs, w.heap[e.ad.block]? = some (.cells vs T (0, 0)) ∧ All2 (VR0 F w g) cs vs.toList
  | .arr t l b => e.sz = t.size ∧ e.n = l.length ∧ l.length ≤ e.cap ∧ e.ad.spot = none ∧
      (0 < e.cap → ∃ vs el, w.heap[e.ad.block]? = some (.cells vs el (0, 0)) ∧ (t = .int .u8 → el = u8T) ∧ e.ad.off + e.cap * t.size ≤ vs.size ∧
        ∀ i x, l[i]? = some x → ∃ us, CR F w t x us ∧ ∀ j u, us[j]? = some u → vs[e.ad.off + (i * t.size + j)]? = some u)
  | .mp m => e.ad.off = 0 ∧ e.ad.spot = none ∧ ∃ es c, w.heap[e.ad.block]? = some (.map es c) ∧ All2 (fun (p : ByteArray × Bool) (x : MapEntry) => x.key = .string p.1 ∧ x.val = .bool p.2) m es.toList
  | .dead => True
structure HR (B : Nat → Prop) (F : Fz) (w : World) (g : List GE) (H : Hp) : Prop where
  len : g.length = H.length
  blk : ∀ (i : Nat) b e, H[i]? = some b → g[i]? = some e → BR F w g e b
  own : ∀ (i : Nat) b e, H[i]? = some b → g[i]? = some e → Real b e → ¬ B e.ad.block ∧ e.ad.block < w.heap.size
  sep : ∀ (i j : Nat) b c e f, H[i]? = some b → H[j]? = some c → g[i]? = some e → g[j]? = some f → Real b e → Real c f → i ≠ j → e.ad.block ≠ f.ad.block
  frz : ∀ k o, F k o → k < w.heap.size ∧ ∀ (i : Nat) b e, H[i]? = some b → g[i]? = some e → Real b e → e.ad.block = k →
    ∃ t l, b = .arr t l true ∧ o < e.ad.off + l.length * t.size
theorem Addr.add_plain (a : Addr) (h : a.spot = none) (n : Nat) : a.add n = ⟨a.block, a.off + n, none⟩ := by
  obtain ⟨b, o, s⟩ := a
  simp only at h; subst h
  unfold Addr.add
  split
  · rename_i h; subst h; rfl
  · rfl
end Go.Proofs.YtmojilihllhadaaGreatDoor.Ev
/- What the evaluator says of an operation that calls nothing is what the machine does: the operations that look at no memory. -/
namespace Go.Proofs.YtmojilihllhadaaGreatDoor.Ev
open Go Go.RowKit
set_option linter.unusedVariables false
set_option linter.unusedSimpArgs false
theorem cond_some {α : Type} {b : Bool} {a : Option α} {x : α} (h : cond b a none = some x) : b = true ∧ a = some x := by
  cases b with
  | true => exact ⟨rfl, h⟩
  | false => cases h
theorem cond_none {α : Type} {b : Bool} {a : Option α} {x : α} (h : cond b none a = some x) : b = false ∧ a = some x := by
  cases b with
  | false => exact ⟨rfl, h⟩
  | true => cases h
section
variable {α : Type} {P : Program} {w : World}
theorem intOp_ok {op : BinOp} {k : IntKind} {a b : Int} {K : AV → Option α} {x : α} (h : intOp op k a b K = some x) (hop : op ≠ .shl ∧ op ≠ .shr) (t : TypeId) :
    ∃ σ v, K σ = some x ∧ (binOp op t (.int k a) (.int k b)).run P w = .ok v w ∧ ((∃ n, σ = .int k n ∧ v = .int k n) ∨ ∃ c, σ = .bool c ∧ v = .bool c) := by
  cases op <;> simp only [intOp] at h <;> first
    | cases h
    | exact absurd rfl hop.1
    | exact absurd rfl hop.2
    | (refine ⟨_, _, h, by (simp only [binOp, ne_eq, not_true_eq_false, if_false]; rfl), ?_⟩; first | exact .inl ⟨_, rfl, rfl⟩ | exact .inr ⟨_, rfl, rfl⟩)
    | (obtain ⟨h1, h2⟩ := cond_none h
       have h3 : b ≠ 0 := by simpa using h1
       refine ⟨_, _, h2, by (simp only [binOp, ne_eq, not_true_eq_false, if_false, Op.intDiv, if_neg h3]; rfl), ?_⟩; first | exact .inl ⟨_, rfl, rfl⟩ | exact .inr ⟨_, rfl, rfl⟩)
theorem strOp_ok {op : BinOp} {a b : ByteArray} {K : AV → Option α} {x : α} (h : strOp op a b K = some x) (t : TypeId) :
    ∃ σ v, K σ = some x ∧ (binOp op t (.string a) (.string b)).run P w = .ok v w ∧ ((∃ n, σ = .str n ∧ v = .string n) ∨ ∃ c, σ = .bool c ∧ v = .bool c) := by
  cases op <;> simp only [strOp] at h <;> first
    | cases h
    | (refine ⟨_, _, h, by rfl, .inr ⟨_, rfl, rfl⟩⟩)
    | (obtain ⟨h1, h2⟩ := cond_some h
       have h3 : ¬ (((a.size + b.size : Nat) : Int) > IntKind.i64.max) := by
         have := of_decide_eq_true h1
         have e : IntKind.i64.max = 9223372036854775807 := rfl
         rw [e]; omega
       refine ⟨_, _, h2, ?_, .inl ⟨_, rfl, rfl⟩⟩
       show (Op.stringOp .add a b).run P w = _
       unfold Op.stringOp
       simp only [if_neg h3]
       rfl)
def OpOk (B : Nat → Prop) (F : Fz) (g : List GE) (w : World) (r : Result Next) (Q : AV → Hp → Prop) : Prop :=
  ∃ σ H' v w' F' g', Q σ H' ∧ (r = .ok (.value v) w' ∨ (r = .ok .skip w' ∧ v = undef)) ∧ VR2 F' w' g' σ v ∧ Gr B F g w F' g' w' ∧ HR B F' w' g' H'
theorem OpOk.plain {B : Nat → Prop} {F : Fz} {g : List GE} {w : World} {H : Hp} {r : Sem Value} {Q : AV → Hp → Prop} {σ : AV} {v : Value}
    (hr : r.run P w = .ok v w) (hH : HR B F w g H) (hQ : Q σ H) (hv : VR2 F w g σ v) : OpOk B F g w ((do pure (.value (← r)) : Sem Next).run P w) Q :=
  ⟨σ, H, v, w, F, g, hQ, .inl (by simp only [Sem.run_bind, hr, Result.andThen]; rfl), hv, Gr.refl .., hH⟩
def KindT (P : Program) (t : TypeId) : Ty → Prop
  | .int k => P.underlying t = some (.int k)
  | .str => P.underlying t = some .string
  | .bool => P.underlying t = some .bool
  | _ => False
def EqFs (P : Program) : Nat → List Field → List Ty → Prop
  | _, [], [] => True
  | i, f :: r, t :: ts => f.offset = i ∧ f.name ≠ "_" ∧ ((isAgg f.type).run P = fun w => .ok false w) ∧ KindT P f.type t ∧ EqFs P (i + 1) r ts
  | _, _, _ => False
structure TiOk (P : Program) (E : Env) (t : TypeId) : Prop where
  slice : ∀ e, (E.ti t).d = .slice e → P.underlying t = some (.slice e)
  array : ∀ n e, (E.ti t).d = .array n e → P.underlying t = some (.array n e)
  int : ∀ k, (E.ti t).d = .int k → P.underlying t = some (.int k)
  bool : (E.ti t).d = .bool → P.underlying t = some .bool
  str : (E.ti t).d = .str → P.underlying t = some .string
  struct : (E.ti t).d = .struct → ∃ fs, P.underlying t = some (.struct fs)
  flds : ∀ (f off size : Nat) (agg : Bool), (E.ti t).flds[f]? = some (off, size, agg) → ∃ (fs : Array Field) (fd : Field) (i : TypeInfo), P.underlying t = some (.struct fs) ∧ fs[f]? = some fd ∧ fd.offset = off ∧
    P.info? fd.type = some i ∧ i.size = size ∧ ((isAgg fd.type).run P = fun w => .ok agg w)
  info : (E.ti t).size ≠ 1000000000 → ∃ i z, P.info? t = some i ∧ i.size = (E.ti t).size ∧ i.bytes = (E.ti t).bytes ∧ ((isAgg t).run P = fun w => .ok (E.ti t).agg w) ∧
    i.zero = some z ∧ ((E.ti t).zero.length = (E.ti t).size → ∀ F w g, All2 (VR0 F w g) (E.ti t).zero z.cells.toList)
  zlen : (E.ti t).zero.length < 1000000000
  places : (E.ti t).d = .struct → ∃ (fs : Array Field) (pl : Array (Nat × Nat)), P.underlying t = some (.struct fs) ∧
    ((fs.mapM fun f => do pure (f.offset, ← sizeOf f.type) : Sem (Array (Nat × Nat))).run P = fun w => .ok pl w) ∧
    ∀ (f off size : Nat) (agg : Bool), (E.ti t).flds[f]? = some (off, size, agg) → pl[f]? = some (off, size)
  elem : ∀ e, ((E.ti t).d = .slice e ∨ ∃ n, (E.ti t).d = .array n e) → ∃ i z, P.info? e = some i ∧ i.size = (E.ti e).ty.size ∧ i.bytes ≤ 1024 ∧ i.size = (E.ti e).size ∧
    i.zero = some z ∧ (∀ F w, CR F w (E.ti e).ty (E.ti e).ty.dft z.cells.toList)
  u8 : ∀ e, ((E.ti t).d = .slice e ∨ ∃ n, (E.ti t).d = .array n e) → (E.ti e).ty = .int .u8 → e = u8T
  ptr : ∀ e, (E.ti t).d = .ptr e → P.underlying t = some (.pointer e)
  map : ∀ k e, (E.ti t).d = .map k e → P.underlying t = some (.map k e)
  bz : (E.ti t).d = .bool → ∃ i, P.info? t = some i ∧ i.zero = some (.bool false)
  eqs : ∀ ts, E.eqT t = some ts → ∃ fs : Array Field, P.underlying t = some (.struct fs) ∧ P.stoodInHeld t = false ∧ P.eqGuardType P.depth t = false ∧ EqFs P 0 fs.toList ts
theorem run_equal_bool (t : TypeId) (a b : Bool) (h : P.underlying t = some .bool) : (Op.equal t (.bool a) (.bool b)).run P w = .ok (a == b) w := by
  show (Op.equalIn (9999 + 1) t _ _).run P w = _
  rw [Op.equalIn]
  simp only [Sem.run_bind, run_underlying h, Result.andThen]
  rfl
theorem part_one {P : Program} {w : World} {t : TypeId} {cs : Array Value} {off : Nat} {v : Value} (ha : (isAgg t).run P = fun w => .ok false w) (hv : cs[off]? = some v) : (part t cs off).run P w = .ok v w := by
  unfold part
  simp only [Sem.run_bind, ha, Result.andThen, Bool.false_eq_true, if_false, hv]
  rfl
theorem eqCell_run {P : Program} {F : Fz} {w : World} {g : List GE} {d : Nat} {f : TypeId} {t : Ty} {x y : AV} {u v : Value} {c : Bool} (hc : eqCell t x y = some c) (h4 : KindT P f t) (hu : VR0 F w g x u) (hv : VR0 F w g y v) :
    (Op.equalIn (d + 1) f u v).run P w = .ok c w := by
  unfold eqCell at hc
  split at hc
  · split at hc
    · rename_i hk
      rw [Bool.and_eq_true, decide_eq_true_eq, decide_eq_true_eq] at hk
      obtain ⟨rfl, rfl⟩ := hk
      cases hc
      cases hu
      cases hv
      exact run_equalIn_int w d f _ _ _ _ h4
    · cases hc
  · cases hc
    cases hu
    cases hv
    exact run_equalIn_string w d f _ _ h4
  · cases hc
    cases hu
    cases hv
    exact run_equalIn_bool' w d f _ _ h4
  · cases hc
theorem eqFields_run {P : Program} {F : Fz} {w : World} {g : List GE} (us vs : Array Value) : ∀ (fs : List Field) (i : Nat) (ts : List Ty) (xs ys : List AV) (d : Nat) (b : Bool), EqFs P i fs ts →
    All2 (VR0 F w g) xs (us.toList.drop i) → All2 (VR0 F w g) ys (vs.toList.drop i) → eqCells ts xs ys = some b → (Op.eqFields (d + 1) us vs fs).run P w = .ok b w
  | [], i, [], xs, ys, d, b, _, hx, hy, h => by cases xs <;> cases ys <;> cases h
  | [], i, t :: ts, xs, ys, d, b, hf, _, _, _ => hf.elim
  | f :: fs, i, [], xs, ys, d, b, hf, _, _, _ => hf.elim
  | f :: fs, i, t :: ts, xs, ys, d, b, ⟨h1, h2, h3, h4, h5⟩, hx, hy, h => by
    have split1 : ∀ (zs : Array Value) (z : Value) (zr : List Value), zs.toList.drop i = z :: zr → zs[i]? = some z ∧ zs.toList.drop (i + 1) = zr := by
      intro zs z zr e
      have hl : i < zs.toList.length := by
        apply Classical.byContradiction
        intro hn
        rw [List.drop_eq_nil_of_le (by omega)] at e
        cases e
      rw [List.drop_eq_getElem_cons hl] at e
      obtain ⟨e1, e2⟩ := List.cons.inj e
      refine ⟨?_, e2⟩
      rw [← Array.getElem?_toList, List.getElem?_eq_getElem hl, e1]
    cases xs with
    | nil => simp [eqCells] at h
    | cons x xr =>
      cases ys with
      | nil => simp [eqCells] at h
      | cons y yr =>
        cases hu : us.toList.drop i with
        | nil => rw [hu] at hx; cases hx
        | cons u ur =>
          cases hv : vs.toList.drop i with
          | nil => rw [hv] at hy; cases hy
          | cons v vr =>
            rw [hu] at hx
            rw [hv] at hy
            cases hx with
            | cons hxu hxr =>
              cases hy with
              | cons hyv hyr =>
                obtain ⟨a1, a2⟩ := split1 us u ur hu
                obtain ⟨b1, b2⟩ := split1 vs v vr hv
                have hstep : ∀ c, eqCell t x y = some c → (Op.eqFields (d + 1) us vs (f :: fs)).run P w = if c = true then (Op.eqFields (d + 1) us vs fs).run P w else .ok false w := by
                  intro c hc
                  simp only [Op.eqFields, if_pos h2, h1, Sem.run_bind, part_one h3 a1, part_one h3 b1, Result.andThen, eqCell_run hc h4 hxu hyv, Sem.run_ite]
                  cases c <;> rfl
                by_cases hone : ts = [] ∧ xr = [] ∧ yr = []
                · obtain ⟨rfl, rfl, rfl⟩ := hone
                  simp only [eqCells] at h
                  rw [hstep b h]
                  cases fs with
                  | cons _ _ => exact h5.elim
                  | nil => cases b <;> rfl
                · have h' : (match eqCell t x y, eqCells ts xr yr with
                      | some c, some d => some (c && d)
                      | _, _ => none) = some b := by
                    rw [eqCells.eq_def] at h
                    split at h
                    · rename_i e1 e2 e3
                      exact (hone ⟨(List.cons.inj e1).2, (List.cons.inj e2).2, (List.cons.inj e3).2⟩).elim
                    · rename_i e1 e2 e3
                      cases e1; cases e2; cases e3
                      exact h
                    · simp_all
                  split at h'
                  · rename_i c e hc he
                    cases h'
                    rw [hstep c hc]
                    have := eqFields_run us vs fs (i + 1) ts xr yr d e h5 (by rw [a2]; exact hxr) (by rw [b2]; exact hyr) he
                    cases c with
                    | true => rw [if_pos rfl, this]; rfl
                    | false => rw [if_neg (by decide)]; rfl
                  · cases h'
theorem binOpK_ok {E : Env} {B : Nat → Prop} {F : Fz} {g : List GE} {H : Hp} {op : BinOp} {t : TypeId} (ht : TiOk P E t) {x y : AV} {u v : Value} {K : AV → Option α} {r : α}
    (h : binOpK E op t x y K = some r) (hx : VR2 F w g x u) (hy : VR2 F w g y v) :
    ∃ σ z, K σ = some r ∧ (binOp op t u v).run P w = .ok z w ∧ VR2 F w g σ z := by
  unfold binOpK at h
  split at h
  · rename_i k a k' b
    have hu : u = .int k a := hx
    have hv : v = .int k' b := hy
    subst hu hv
    split at h
    · obtain ⟨h1, h2⟩ := cond_none h
      have h3 : ¬ b < 0 := by simpa using h1
      exact ⟨_, _, h2, by simp only [binOp, Op.shift, if_neg h3]; rfl, rfl⟩
    · obtain ⟨h1, h2⟩ := cond_none h
      have h3 : ¬ b < 0 := by simpa using h1
      exact ⟨_, _, h2, by simp only [binOp, Op.shift, if_neg h3]; rfl, rfl⟩
    · rename_i hs1 hs2
      split at h
      · rename_i hk
        subst hk
        obtain ⟨σ, z, h1, h2, h3⟩ := intOp_ok (P := P) (w := w) h ⟨fun e => hs1 e, fun e => hs2 e⟩ t
        refine ⟨σ, z, h1, h2, ?_⟩
        rcases h3 with ⟨n, rfl, rfl⟩ | ⟨c, rfl, rfl⟩ <;> rfl
      · cases h
  · rename_i a b
    have hu : u = .string a := hx
    have hv : v = .string b := hy
    subst hu hv
    obtain ⟨σ, z, h1, h2, h3⟩ := strOp_ok (P := P) (w := w) h t
    refine ⟨σ, z, h1, h2, ?_⟩
    rcases h3 with ⟨n, rfl, rfl⟩ | ⟨c, rfl, rfl⟩ <;> rfl
  · rename_i a b
    have hu : u = .bool a := hx
    have hv : v = .bool b := hy
    subst hu hv
    split at h
    · rename_i hd
      refine ⟨_, _, h, ?_, rfl⟩
      simp only [binOp, Sem.run_bind, run_equal_bool t a b (ht.bool hd), Result.andThen]
      rfl
    · rename_i hd
      refine ⟨_, _, h, ?_, rfl⟩
      simp only [binOp, Sem.run_bind, run_equal_bool t a b (ht.bool hd), Result.andThen]
      rfl
    · cases h
  · rename_i xs ys
    obtain ⟨us, rfl, hxs⟩ := hx
    obtain ⟨vs, rfl, hys⟩ := hy
    have key : ∀ (ts : List Ty) (b : Bool), E.eqT t = some ts → eqCells ts xs ys = some b → (Op.equalIn 10000 t (.agg us) (.agg vs)).run P w = .ok b w := by
      intro ts b he hk
      obtain ⟨fs, hf1, hf2, hf3, hf4⟩ := ht.eqs ts he
      have hfo : P.fieldsOf t = fs := by unfold Program.fieldsOf; rw [hf1]
      rw [run_equalIn_struct w 9999 t us vs (by rw [hfo]; exact hf1) hf2, hfo]
      exact eqFields_run (P := P) us vs fs.toList 0 ts xs ys 9998 b hf4 (by simpa using hxs) (by simpa using hys) hk
    split at h
    · rename_i ts he
      split at h
      · rename_i b hb
        refine ⟨_, _, h, ?_, rfl⟩
        rw [run_eql_struct, key ts b he hb]
        rfl
      · cases h
    · rename_i ts he
      split at h
      · rename_i b hb
        refine ⟨_, _, h, ?_, rfl⟩
        rw [run_neq_struct, key ts b he hb]
        rfl
      · cases h
    · cases h
  · cases h
end
end Go.Proofs.YtmojilihllhadaaGreatDoor.Ev
/- Plain data and the cells that hold it: taken apart, put together, given for reading. -/
namespace Go.Proofs.YtmojilihllhadaaGreatDoor.Ev
open Go Go.RowKit
set_option linter.unusedVariables false
set_option linter.unusedSimpArgs false
theorem cell_of_block {w : World} {b o : Nat} {vs : Array Value} {el : TypeId} {fr : Nat × Nat} (h : w.heap[b]? = some (.cells vs el fr)) : w.cell? ⟨b, o, none⟩ = vs[o]? := by
  simp [World.cell?, h]
theorem explode_ok {F : Fz} {w : World} {g : List GE} : (t : Ty) → (x : t.den) → (vs : List Value) → CR F w t x vs → All2 (VR0 F w g) (explode t x) vs
  | .int _, _, _, h => by simp only [CR] at h; subst h; exact .cons rfl .nil
  | .bool, _, _, h => by simp only [CR] at h; subst h; exact .cons rfl .nil
  | .str, _, _, h => by simp only [CR] at h; subst h; exact .cons rfl .nil
  | .unit, _, _, h => by simp only [CR] at h; subst h; exact .nil
  | .sl t, l, vs, h => by
    have h' := h
    simp only [CR] at h'
    obtain ⟨A, c, rfl, _⟩ := h'
    exact .cons h .nil
  | .st t, x, vs, h => by simp only [CR] at h; exact explode_ok t x vs h
  | .pair a b, x, _, h => by
    simp only [CR] at h
    obtain ⟨v1, v2, rfl, h1, h2⟩ := h
    exact (explode_ok a _ _ h1).append (explode_ok b _ _ h2)
def lendF (F : Fz) (g : List GE) (H : Hp) (ids : List Nat) : Fz := fun b o =>
  F b o ∨ ∃ id ∈ ids, ∃ t l s e, H[id]? = some (.arr t l s) ∧ g[id]? = some e ∧ 0 < e.cap ∧ e.ad.block = b ∧ e.ad.off ≤ o ∧ o < e.ad.off + l.length * t.size
theorem lend1_get (H : Hp) (id i : Nat) (b : Blk) (h : (lend1 H id)[i]? = some b) :
    ∃ c, H[i]? = some c ∧ (b = c ∨ ∃ t l s, c = .arr t l s ∧ b = .arr t l true) := by
  unfold lend1 at h
  rw [List.getElem?_modify] at h
  cases hc : H[i]? with
  | none => simp [hc] at h
  | some c =>
    refine ⟨c, rfl, ?_⟩
    rw [hc] at h
    by_cases hi : id = i
    · simp only [if_pos hi] at h
      have h' := Option.some.inj h
      cases c with
      | arr t l s => exact .inr ⟨t, l, s, rfl, h'.symm⟩
      | _ => exact .inl h'.symm
    · simp only [if_neg hi] at h
      exact .inl (Option.some.inj h).symm
theorem lendAll_get : ∀ (ids : List Nat) (H : Hp) (i : Nat) (b : Blk), (lendAll H ids)[i]? = some b →
    ∃ c, H[i]? = some c ∧ (b = c ∨ ∃ t l s, c = .arr t l s ∧ b = .arr t l true)
  | [], H, i, b, h => ⟨b, h, .inl rfl⟩
  | id :: ids, H, i, b, h => by
    have h' : (lendAll (lend1 H id) ids)[i]? = some b := h
    obtain ⟨c, h1, h2⟩ := lendAll_get ids _ i b h'
    obtain ⟨d, h3, h4⟩ := lend1_get _ _ _ _ h1
    refine ⟨d, h3, ?_⟩
    rcases h4 with rfl | ⟨t, l, s, rfl, rfl⟩
    · exact h2
    · rcases h2 with rfl | ⟨t', l', s', h5, rfl⟩
      · exact .inr ⟨t, l, s, rfl, rfl⟩
      · cases h5; exact .inr ⟨t, l, s, rfl, rfl⟩
theorem lend1_len (H : Hp) (id : Nat) : (lend1 H id).length = H.length := by simp [lend1]
theorem lendAll_len : ∀ (ids : List Nat) (H : Hp), (lendAll H ids).length = H.length
  | [], _ => rfl
  | id :: ids, H => by
    show (lendAll (lend1 H id) ids).length = _
    rw [lendAll_len ids, lend1_len]
theorem lend1_mark (H : Hp) (id : Nat) (t : Ty) (l : List t.den) (s : Bool) (h : H[id]? = some (.arr t l s)) : (lend1 H id)[id]? = some (.arr t l true) := by
  simp [lend1, List.getElem?_modify, h]
theorem lend1_keep (H : Hp) (id i : Nat) (t : Ty) (l : List t.den) (h : H[i]? = some (.arr t l true)) : (lend1 H id)[i]? = some (.arr t l true) := by
  simp only [lend1, List.getElem?_modify, h, Option.map_some]
  split <;> rfl
theorem lendAll_keep : ∀ (ids : List Nat) (H : Hp) (i : Nat) (t : Ty) (l : List t.den), H[i]? = some (.arr t l true) → (lendAll H ids)[i]? = some (.arr t l true)
  | [], _, _, _, _, h => h
  | id :: ids, H, i, t, l, h => lendAll_keep ids (lend1 H id) i t l (lend1_keep H id i t l h)
theorem lendAll_mark : ∀ (ids : List Nat) (H : Hp) (i : Nat) (t : Ty) (l : List t.den) (s : Bool), i ∈ ids → H[i]? = some (.arr t l s) → (lendAll H ids)[i]? = some (.arr t l true)
  | [], _, _, _, _, _, h, _ => by simp at h
  | id :: ids, H, i, t, l, s, hm, h => by
    show (lendAll (lend1 H id) ids)[i]? = _
    by_cases hi : i = id
    · subst hi
      exact lendAll_keep ids _ _ _ _ (lend1_mark H i t l s h)
    · rcases List.mem_cons.1 hm with h' | h'
      · exact absurd h' hi
      · refine lendAll_mark ids _ i t l s h' ?_
        have : (id = i) = False := by simp; exact fun e => hi e.symm
        simp [lend1, List.getElem?_modify, h, this]
theorem real_lend {b c : Blk} {e : GE} (h : b = c ∨ ∃ t l s, c = .arr t l s ∧ b = .arr t l true) : Real b e ↔ Real c e := by
  rcases h with rfl | ⟨t, l, s, rfl, rfl⟩ <;> simp [Real]
theorem lend_gr {B : Nat → Prop} {F : Fz} {g : List GE} {w : World} {H : Hp} (hH : HR B F w g H) (ids : List Nat) : Gr B F g w (lendF F g H ids) g w := by
  refine ⟨fun _ _ h => .inl h, fun b o h => ?_, fun _ _ _ _ h => h, fun _ _ h => h, Sam.refl _ _⟩
  rcases h with h | ⟨id, _, t, l, s, e, h1, h2, h3, rfl, _⟩
  · exact .inl h
  · exact .inr (hH.own id _ e h1 h2 h3).1
theorem lend_HR {B : Nat → Prop} {F : Fz} {g : List GE} {w : World} {H : Hp} (hH : HR B F w g H) (ids : List Nat) : HR B (lendF F g H ids) w g (lendAll H ids) := by
  have hg := lend_gr hH ids
  refine ⟨by rw [lendAll_len]; exact hH.len, fun i b e hb he => ?_, fun i b e hb he hr => ?_, fun i j b c e f hb hc he hf hr hs hij => ?_, fun k o hk => ?_⟩
  · obtain ⟨c, hc, hbc⟩ := lendAll_get ids H i b hb
    have hbr := hH.blk i c e hc he
    rcases hbc with rfl | ⟨t, l, s, rfl, rfl⟩
    · cases b with
      | var T cs =>
        obtain ⟨h1, h2, vs, h3, h4⟩ := hbr
        exact ⟨h1, h2, vs, h3, h4.mono fun _ _ => VR0_gr hg⟩
      | arr t l s =>
        obtain ⟨h1, h2, h3, h4, h5⟩ := hbr
        refine ⟨h1, h2, h3, h4, fun hc => ?_⟩
        obtain ⟨vs, el, h7, ku, h8, h9⟩ := h5 hc
        exact ⟨vs, el, h7, ku, h8, fun i x hx => let ⟨us, ha, hb⟩ := h9 i x hx; ⟨us, CR_gr hg ha, hb⟩⟩
      | mp m => exact hbr
      | dead => trivial
    · obtain ⟨h1, h2, h3, h4, h5⟩ := hbr
      refine ⟨h1, h2, h3, h4, fun hc => ?_⟩
      obtain ⟨vs, el, h7, ku, h8, h9⟩ := h5 hc
      exact ⟨vs, el, h7, ku, h8, fun i x hx => let ⟨us, ha, hb⟩ := h9 i x hx; ⟨us, CR_gr hg ha, hb⟩⟩
  · obtain ⟨c, hc, hbc⟩ := lendAll_get ids H i b hb
    exact hH.own i c e hc he ((real_lend hbc).1 hr)
  · obtain ⟨b', hb', hbb⟩ := lendAll_get ids H i b hb
    obtain ⟨c', hc', hcc⟩ := lendAll_get ids H j c hc
    exact hH.sep i j b' c' e f hb' hc' he hf ((real_lend hbb).1 hr) ((real_lend hcc).1 hs) hij
  · rcases hk with hk | ⟨id, hid, t, l, s, e, h1, h2, h3, rfl, h5, h6⟩
    · obtain ⟨h1, h2⟩ := hH.frz k o hk
      refine ⟨h1, fun i b e hb he hr hbk => ?_⟩
      obtain ⟨c, hc, hbc⟩ := lendAll_get ids H i b hb
      obtain ⟨t, l, h3, h4⟩ := h2 i c e hc he ((real_lend hbc).1 hr) hbk
      subst h3
      rcases hbc with rfl | ⟨t', l', s', h5, rfl⟩
      · exact ⟨t, l, rfl, h4⟩
      · cases h5; exact ⟨t, l, rfl, h4⟩
    · refine ⟨(hH.own id _ e h1 h2 h3).2, fun i b f hb hf hr hbk => ?_⟩
      obtain ⟨c, hc, hbc⟩ := lendAll_get ids H i b hb
      by_cases hi : i = id
      · subst hi
        have : f = e := by rw [h2] at hf; exact (Option.some.inj hf).symm
        subst this
        rw [lendAll_mark ids H i t l s hid h1] at hb
        cases hb
        exact ⟨t, l, rfl, h6⟩
      · exact absurd hbk (hH.sep i id c _ f e hc h1 hf h2 ((real_lend hbc).1 hr) h3 hi)
end Go.Proofs.YtmojilihllhadaaGreatDoor.Ev
/- Plain data read out of values: slices, whole values. -/
namespace Go.Proofs.YtmojilihllhadaaGreatDoor.Ev
open Go Go.RowKit
set_option linter.unusedVariables false
set_option linter.unusedSimpArgs false
theorem castL_some {a b : Ty} {x : List a.den} {y : List b.den} (h : castL? a b x = some y) : ∃ e : a = b, y = e ▸ x := by
  unfold castL? at h
  split at h
  · rename_i e; exact ⟨e, (Option.some.inj h).symm⟩
  · cases h
section
variable {B : Nat → Prop} {F : Fz} {g : List GE} {w : World} {H : Hp}
theorem mul_lt_of {i n sz j : Nat} (h : i < n) (hj : j < sz) : i * sz + j < n * sz := by
  have h1 : (i + 1) * sz ≤ n * sz := Nat.mul_le_mul_right sz h
  rw [Nat.add_mul, Nat.one_mul] at h1
  omega
theorem arr_rows {id : Nat} {t : Ty} {l : List t.den} {s : Bool} {e : GE} (hH : HR B F w g H) (hb : H[id]? = some (.arr t l s)) (he : g[id]? = some e) (i : Nat) (x : t.den) (hx : l[i]? = some x) :
    0 < e.cap ∧ ∃ us, CR F w t x us ∧ us.length = t.size ∧ ∀ j u, us[j]? = some u → w.cell? ⟨e.ad.block, e.ad.off + (i * t.size + j), none⟩ = some u := by
  obtain ⟨h1, h2, h3, h4, h5⟩ := hH.blk id _ e hb he
  have hi : i < l.length := by
    rcases Nat.lt_or_ge i l.length with h | h
    · exact h
    · rw [List.getElem?_eq_none h] at hx; cases hx
  have hc : 0 < e.cap := by omega
  obtain ⟨vs, el, h7, ku, h8, h9⟩ := h5 hc
  obtain ⟨us, ha, hbb⟩ := h9 i x hx
  exact ⟨hc, us, ha, CR_len _ _ _ ha, fun j u hu => by rw [cell_of_block h7]; exact hbb j u hu⟩
theorem lendF_mono {a b : List Nat} (h : ∀ i ∈ a, i ∈ b) (k o : Nat) (hk : lendF F g H a k o) : lendF F g H b k o := by
  rcases hk with hk | ⟨id, hid, r⟩
  · exact .inl hk
  · exact .inr ⟨id, h _ hid, r⟩
theorem CR_lend {a b : List Nat} (h : ∀ i ∈ a, i ∈ b) {t : Ty} {x : t.den} {vs : List Value} (k : CR (lendF F g H a) w t x vs) : CR (lendF F g H b) w t x vs :=
  CR_mono (fun _ _ => lendF_mono h _ _) (fun _ _ _ _ h => h) t x vs k
theorem CR_lend0 (a : List Nat) {t : Ty} {x : t.den} {vs : List Value} (k : CR F w t x vs) : CR (lendF F g H a) w t x vs :=
  CR_mono (fun _ _ h => .inl h) (fun _ _ _ _ h => h) t x vs k
theorem idx_lt {β : Type} {l : List β} {i : Nat} {x : β} (h : l[i]? = some x) : i < l.length := by
  rcases Nat.lt_or_ge i l.length with h' | h'
  · exact h'
  · rw [List.getElem?_eq_none h'] at h; cases h
theorem asSl_ok {t : Ty} {v : AV} {u : Value} {l : List t.den} (h : asSl H t v = some l) (hv : VR0 F w g v u) (hH : HR B F w g H) :
    CR (lendF F g H (ownIds [v])) w (.sl t) l [u] := by
  cases v with
  | sl t' l' =>
    obtain ⟨rfl, rfl⟩ := castL_some h
    exact CR_lend0 _ hv
  | emp =>
    obtain ⟨A, rfl⟩ := hv
    cases h
    simp only [CR]
    exact ⟨A, 0, rfl, Nat.le_refl _, fun i x hx => by simp at hx⟩
  | all id sz n =>
    simp only [asSl] at h
    split at h
    · rename_i t' l' s hb
      obtain ⟨rfl, rfl⟩ := castL_some h
      obtain ⟨e, A, he, hn, hsz, hsp, rfl, hA, hnc⟩ := hv
      obtain ⟨h1, h2, h3, h4, h5⟩ := hH.blk id _ e hb he
      simp only [CR]
      refine ⟨A, e.cap, by rw [← h2, hn], h3, fun i x hx => ?_⟩
      obtain ⟨hc, us, ha, hl, hu⟩ := arr_rows hH hb he i x hx
      refine ⟨e.ad, hA hc, h4, us, CR_lend0 _ ha, hl, fun j u hj => ⟨?_, hu j u hj⟩⟩
      exact .inr ⟨id, by simp [ownIds], _, _, s, e, hb, he, hc, rfl, by omega, by
        have := mul_lt_of (idx_lt hx) (hl ▸ idx_lt hj : j < _); omega⟩
    · cases h
  | own id sz off n =>
    simp only [asSl] at h
    split at h
    · rename_i t' l' s hb
      obtain ⟨rfl, rfl⟩ := castL_some h
      obtain ⟨e, A, he, hn, hsz, hnc, rfl, hA⟩ := hv
      obtain ⟨h1, h2, h3, h4, h5⟩ := hH.blk id _ e hb he
      have hlen : ((l'.drop off).take n).length = n := by simp; omega
      simp only [CR]
      refine ⟨A, e.cap - off, by rw [hlen], by rw [hlen]; omega, fun i x hx => ?_⟩
      have hi := idx_lt hx
      rw [hlen] at hi
      have hx' : l'[off + i]? = some x := by
        rw [List.getElem?_take, if_pos hi, List.getElem?_drop] at hx; exact hx
      obtain ⟨hc, us, ha, hl, hu⟩ := arr_rows hH hb he (off + i) x hx'
      refine ⟨⟨e.ad.block, e.ad.off + off * e.sz, none⟩, hA (by omega), rfl, us, CR_lend0 _ ha, hl, fun j u hj => ?_⟩
      have hlt := mul_lt_of (idx_lt hx') (hl ▸ idx_lt hj : j < _)
      have e1 : e.ad.off + off * e.sz + (i * t'.size + j) = e.ad.off + ((off + i) * t'.size + j) := by
        rw [h1, Nat.add_mul]; omega
      refine ⟨?_, by show w.cell? ⟨e.ad.block, e.ad.off + off * e.sz + (i * t'.size + j), none⟩ = _; rw [e1]; exact hu j u hj⟩
      show lendF F g H _ e.ad.block (e.ad.off + off * e.sz + (i * t'.size + j))
      rw [e1]
      exact .inr ⟨id, by simp [ownIds], _, _, s, e, hb, he, hc, rfl, by omega, by omega⟩
    · cases h
  | _ => cases h
theorem ownIds_cons (v : AV) (cs : List AV) : ownIds (v :: cs) = ownIds [v] ++ ownIds cs := by
  simp only [ownIds, List.filterMap_cons, List.filterMap_nil]
  split <;> simp
theorem ownIds_append (a b : List AV) : ownIds (a ++ b) = ownIds a ++ ownIds b := by simp [ownIds]
theorem collapse_ok (hH : HR B F w g H) : (t : Ty) → (cs : List AV) → (vs : List Value) → (x : t.den) → (r : List AV) → collapse H t cs = some (x, r) → All2 (VR0 F w g) cs vs →
    ∃ pre v1 v2, cs = pre ++ r ∧ vs = v1 ++ v2 ∧ CR (lendF F g H (ownIds pre)) w t x v1 ∧ All2 (VR0 F w g) r v2
  | .int k, cs, vs, x, r, h, hv => by
    cases hv with
    | nil => simp [collapse] at h
    | cons hv ht =>
      rename_i v u cs' vs'
      cases v <;> simp only [collapse] at h <;> try (cases h; done)
      split at h
      · rename_i hk
        subst hk
        cases h
        exact ⟨[_], [u], vs', rfl, rfl, by simp only [CR]; exact congrArg (fun z => [z]) hv, ht⟩
      · cases h
  | .bool, cs, vs, x, r, h, hv => by
    cases hv with
    | nil => simp [collapse] at h
    | cons hv ht =>
      rename_i v u cs' vs'
      cases v <;> simp only [collapse] at h <;> try (cases h; done)
      cases h
      exact ⟨[_], [u], vs', rfl, rfl, by simp only [CR]; exact congrArg (fun z => [z]) hv, ht⟩
  | .str, cs, vs, x, r, h, hv => by
    cases hv with
    | nil => simp [collapse] at h
    | cons hv ht =>
      rename_i v u cs' vs'
      cases v <;> simp only [collapse] at h <;> try (cases h; done)
      cases h
      exact ⟨[_], [u], vs', rfl, rfl, by simp only [CR]; exact congrArg (fun z => [z]) hv, ht⟩
  | .sl t, cs, vs, x, r, h, hv => by
    cases hv with
    | nil => simp [collapse] at h
    | cons hv ht =>
      rename_i v u cs' vs'
      simp only [collapse] at h
      split at h
      · rename_i l hl
        cases h
        exact ⟨[v], [u], vs', rfl, rfl, asSl_ok hl hv hH, ht⟩
      · cases h
  | .unit, cs, vs, x, r, h, hv => by
    simp only [collapse] at h
    cases h
    exact ⟨[], [], vs, rfl, rfl, by simp only [CR], hv⟩
  | .st t, cs, vs, x, r, h, hv => by
    simp only [collapse] at h
    obtain ⟨pre, v1, v2, h1, h2, h3, h4⟩ := collapse_ok hH t cs vs x r h hv
    exact ⟨pre, v1, v2, h1, h2, by simpa only [CR] using h3, h4⟩
  | .pair a b, cs, vs, x, r, h, hv => by
    simp only [collapse] at h
    split at h
    · rename_i y r1 hy
      split at h
      · rename_i z r2 hz
        cases h
        obtain ⟨p1, v1, v2, h1, h2, h3, h4⟩ := collapse_ok hH a cs vs y r1 hy hv
        obtain ⟨p2, v3, v4, h5, h6, h7, h8⟩ := collapse_ok hH b r1 v2 z _ hz h4
        refine ⟨p1 ++ p2, v1 ++ v3, v4, by rw [h1, h5, List.append_assoc], by rw [h2, h6, List.append_assoc], ?_, h8⟩
        simp only [CR]
        refine ⟨v1, v3, rfl, CR_lend (fun i hi => ?_) h3, CR_lend (fun i hi => ?_) h7⟩
        · rw [ownIds_append]; exact List.mem_append_left _ hi
        · rw [ownIds_append]; exact List.mem_append_right _ hi
      · cases h
    · cases h
theorem solid0_cell {v : AV} {u : Value} (hs : solid0 v = true) (hv : VR1 F w g v u) : u.oneCell' = true := by
  cases v <;> simp only [solid0] at hs <;> simp only [VR1, VR0] at hv <;> try (cases hs; done)
  case slf =>
    obtain ⟨_, _, h⟩ := hv
    rcases h with rfl | rfl <;> rfl
  all_goals first
    | (subst hv; rfl)
    | (obtain ⟨_, _, rfl⟩ := hv; rfl)
    | (obtain ⟨_, rfl, _⟩ := hv; rfl)
    | (obtain ⟨_, rfl⟩ := hv; rfl)
    | (obtain ⟨_, _, _, _, rfl, _⟩ := hv; rfl)
    | (obtain ⟨_, _, _, _, _, _, rfl, _⟩ := hv; rfl)
    | (obtain ⟨_, _, _, _, _, rfl⟩ := hv; rfl)
    | (obtain ⟨_, _, _, _, _, rfl, _⟩ := hv; rfl)
    | (obtain ⟨_, _, _, rfl⟩ := hv; rfl)
    | (obtain ⟨_, _, _, _, rfl⟩ := hv; rfl)
    | skip
  · -- a slice for reading
    simp only [CR] at hv
    obtain ⟨A, c, h, _⟩ := hv
    cases h; rfl
  · rename_i z
    subst hv
    cases u <;> first | rfl | (simp at hs)
theorem oneCell_cells {u : Value} (h : u.oneCell' = true) : u.cells = #[u] := by
  cases u <;> first | rfl | (simp [Value.oneCell'] at h)
theorem solid0_low {v : AV} {u : Value} (hs : solid0 v = true) (hv : VR1 F w g v u) : VR0 F w g v u := by
  cases v with
  | fn f cs =>
    cases cs with
    | nil =>
      obtain ⟨vs, rfl, h⟩ := hv
      have : vs.toList = [] := by cases hh : vs.toList with
        | nil => rfl
        | cons a b => rw [hh] at h; cases h
      have hvs : vs = #[] := Array.toList_eq_nil_iff.1 this
      subst hvs
      exact ⟨rfl, rfl⟩
    | cons a b => cases hs
  | agg cs => cases hs
  | _ => exact hv
theorem solid_cells {v : AV} {u : Value} (hs : solid v = true) (hv : VR1 F w g v u) :
    All2 (VR0 F w g) (cellsOf v) u.cells.toList ∧ ∀ z ∈ u.cells.toList, z.oneCell' = true := by
  cases hv' : (match v with | .agg _ => true | _ => false) with
  | true =>
    cases v <;> simp at hv'
    rename_i cs
    obtain ⟨vs, rfl, h⟩ := hv
    simp only [solid, List.all_eq_true] at hs
    refine ⟨h, fun z hz => ?_⟩
    obtain ⟨i, hi⟩ := List.mem_iff_getElem?.1 hz
    obtain ⟨a, ha, hab⟩ := h.getR i z hi
    have hsa := hs a (List.mem_of_getElem? ha)
    refine solid0_cell hsa (F := F) (w := w) (g := g) ?_
    cases a <;> first | exact hab | exact hab.elim | (obtain ⟨rfl, rfl⟩ := hab; exact ⟨#[], rfl, .nil⟩)
  | false =>
    have hs0 : solid0 v = true := by cases v <;> first | exact hs | (simp at hv')
    have hc : cellsOf v = [v] := by cases v <;> first | rfl | (simp at hv')
    have h1 := solid0_cell hs0 hv
    rw [oneCell_cells h1, hc]
    exact ⟨.cons (solid0_low hs0 hv) .nil, fun z hz => by simp at hz; subst hz; exact h1⟩
theorem asTy_ok {t : Ty} {v : AV} {u : Value} {x : t.den} (h : asTy H t v = some x) (hv : VR1 F w g v u) (hH : HR B F w g H) :
    CR (lendF F g H (ownIds (cellsOf v))) w t x u.cells.toList := by
  unfold asTy at h
  split at h
  · rename_i y hs hy
    cases h
    simp only [Bool.and_eq_true] at hs
    obtain ⟨h1, _⟩ := solid_cells hs.1 hv
    obtain ⟨pre, v1, v2, e1, e2, h3, h4⟩ := collapse_ok hH t _ _ _ _ hy h1
    cases h4
    rw [e1, e2]
    simpa using h3
  · cases h
theorem collapse_plain {F : Fz} {w : World} {g : List GE} {H : Hp} : (t : Ty) → (cs : List AV) → (vs : List Value) → (x : t.den) → (r : List AV) → t.hasSl = false → collapse H t cs = some (x, r) → All2 (VR0 F w g) cs vs →
    ∃ v1 v2, vs = v1 ++ v2 ∧ CR F w t x v1 ∧ All2 (VR0 F w g) r v2
  | .int k, cs, vs, x, r, _, h, hv => by
    cases hv with
    | nil => simp [collapse] at h
    | cons hv ht =>
      rename_i v u cs' vs'
      cases v <;> simp only [collapse] at h <;> try (cases h; done)
      split at h
      · rename_i hk
        subst hk
        cases h
        exact ⟨[u], vs', rfl, by simp only [CR]; exact congrArg (fun z => [z]) hv, ht⟩
      · cases h
  | .bool, cs, vs, x, r, _, h, hv => by
    cases hv with
    | nil => simp [collapse] at h
    | cons hv ht =>
      rename_i v u cs' vs'
      cases v <;> simp only [collapse] at h <;> try (cases h; done)
      cases h
      exact ⟨[u], vs', rfl, by simp only [CR]; exact congrArg (fun z => [z]) hv, ht⟩
  | .str, cs, vs, x, r, _, h, hv => by
    cases hv with
    | nil => simp [collapse] at h
    | cons hv ht =>
      rename_i v u cs' vs'
      cases v <;> simp only [collapse] at h <;> try (cases h; done)
      cases h
      exact ⟨[u], vs', rfl, by simp only [CR]; exact congrArg (fun z => [z]) hv, ht⟩
  | .sl t, cs, vs, x, r, hs, h, hv => by cases hs
  | .unit, cs, vs, x, r, _, h, hv => by
    cases h
    exact ⟨[], vs, rfl, by simp only [CR], hv⟩
  | .pair a b, cs, vs, x, r, hs, h, hv => by
    simp only [Ty.hasSl, Bool.or_eq_false_iff] at hs
    simp only [collapse] at h
    split at h
    · rename_i y r1 h1
      split at h
      · rename_i z r2 h2
        cases h
        obtain ⟨v1, v2, rfl, p1, p2⟩ := collapse_plain a cs vs y r1 hs.1 h1 hv
        obtain ⟨v3, v4, rfl, q1, q2⟩ := collapse_plain b r1 v2 z r hs.2 h2 p2
        exact ⟨v1 ++ v3, v4, by simp, ⟨v1, v3, rfl, p1, q1⟩, q2⟩
      · cases h
    · cases h
  | .st t, cs, vs, x, r, hs, h, hv => by
    obtain ⟨v1, v2, h1, h2, h3⟩ := collapse_plain t cs vs x r hs h hv
    exact ⟨v1, v2, h1, by simp only [CR]; exact h2, h3⟩
theorem rowsOf_ok {F : Fz} {w : World} {g : List GE} {H : Hp} {t : Ty} (hs : t.hasSl = false) : ∀ (n : Nat) (cs : List AV) (vs : List Value) (l : List t.den), rowsOf H t n cs = some l → All2 (VR0 F w g) cs vs →
    l.length = n ∧ vs.length = n * t.size ∧ ∀ i x, l[i]? = some x → ∃ us, CR F w t x us ∧ ∀ j u, us[j]? = some u → vs[i * t.size + j]? = some u
  | 0, [], vs, l, h, hv => by
    cases h
    cases hv
    exact ⟨rfl, by simp, fun i x hx => by simp at hx⟩
  | 0, _ :: _, vs, l, h, hv => by cases h
  | n + 1, cs, vs, l, h, hv => by
    simp only [rowsOf] at h
    split at h
    · rename_i y r h1
      split at h
      · rename_i l' h2
        cases h
        obtain ⟨v1, v2, rfl, p1, p2⟩ := collapse_plain t cs vs y r hs h1 hv
        obtain ⟨q1, q2, q3⟩ := rowsOf_ok hs n r v2 l' h2 p2
        have hl := CR_len t y v1 p1
        refine ⟨by simp [q1], by rw [List.length_append, hl, q2, Nat.succ_mul, Nat.add_comm], fun i x hx => ?_⟩
        cases i with
        | zero =>
          simp at hx
          subst hx
          refine ⟨v1, p1, fun j u hj => ?_⟩
          rw [Nat.zero_mul, Nat.zero_add, List.getElem?_append_left (List.getElem?_eq_some_iff.1 hj).1]
          exact hj
        | succ i =>
          simp at hx
          obtain ⟨us, c1, c2⟩ := q3 i x hx
          refine ⟨us, c1, fun j u hj => ?_⟩
          rw [Nat.succ_mul, List.getElem?_append_right (by omega), hl, show i * t.size + t.size + j - t.size = i * t.size + j by omega]
          exact c2 j u hj
      · cases h
    · cases h
end
end Go.Proofs.YtmojilihllhadaaGreatDoor.Ev
/- How the own memory goes on: a block written to, a new one, one left behind. -/
namespace Go.Proofs.YtmojilihllhadaaGreatDoor.Ev
open Go Go.RowKit
set_option linter.unusedVariables false
set_option linter.unusedSimpArgs false
section
variable {B : Nat → Prop} {F : Fz} {g : List GE} {w : World} {H : Hp}
theorem cell_same {w w' : World} {b o : Nat} (h : w'.heap[b]? = w.heap[b]?) : w'.cell? ⟨b, o, none⟩ = w.cell? ⟨b, o, none⟩ := by simp [World.cell?, h]
theorem BR_gr {F' : Fz} {g' : List GE} {w' : World} {e : GE} {b : Blk} (hg : Gr B F g w F' g' w') (hh : Real b e → w'.heap[e.ad.block]? = w.heap[e.ad.block]?) (h : BR F w g e b) : BR F' w' g' e b := by
  cases b with
  | var T cs =>
    obtain ⟨h1, h2, vs, h3, h4⟩ := h
    exact ⟨h1, h2, vs, by rw [hh trivial]; exact h3, h4.mono fun _ _ => VR0_gr hg⟩
  | arr t l s =>
    obtain ⟨h1, h2, h3, h4, h5⟩ := h
    refine ⟨h1, h2, h3, h4, fun hc => ?_⟩
    obtain ⟨vs, el, h7, ku, h8, h9⟩ := h5 hc
    exact ⟨vs, el, by rw [hh hc]; exact h7, ku, h8, fun i x hx => let ⟨us, ha, hb⟩ := h9 i x hx; ⟨us, CR_gr hg ha, hb⟩⟩
  | mp m =>
    obtain ⟨h1, h2, es, c, h3, h4⟩ := h
    exact ⟨h1, h2, es, c, by rw [hh trivial]; exact h3, h4⟩
  | dead => trivial
def Free (b : Blk) : Prop := (∃ T cs, b = .var T cs) ∨ (∃ t l, b = .arr t l false) ∨ ∃ m, b = .mp m
theorem free_F {id : Nat} {b : Blk} {e : GE} (hH : HR B F w g H) (hb : H[id]? = some b) (he : g[id]? = some e) (hr : Real b e) (hf : Free b) (o : Nat) : ¬ F e.ad.block o := by
  intro h
  obtain ⟨t, l, h1, _⟩ := (hH.frz _ _ h).2 id b e hb he hr rfl
  rcases hf with ⟨T, cs, rfl⟩ | ⟨t, l, rfl⟩ | ⟨m, rfl⟩ <;> cases h1
theorem HR_set {id : Nat} {b b' : Blk} {e : GE} {w' : World} (hH : HR B F w g H) (hb : H[id]? = some b) (he : g[id]? = some e) (hr : Real b e) (hf : Free b)
    (hos : w'.os = w.os) (htape : w'.tape = w.tape) (hout : w'.output = w.output) (hsz : w'.heap.size = w.heap.size)
    (hh : ∀ k, k ≠ e.ad.block → w'.heap[k]? = w.heap[k]?)
    (hbr : Gr B F g w F g w' → BR F w' g e b') (hlen : ∀ t l, b' ≠ .arr t l true) :
    Gr B F g w F g w' ∧ HR B F w' g (H.set id b') := by
  obtain ⟨hB, hlt⟩ := hH.own id b e hb he hr
  have hF := free_F hH hb he hr hf
  have hg : Gr B F g w F g w' := by
    refine ⟨fun _ _ h => h, fun _ _ h => .inl h, fun k o u hk hu => ?_, fun _ _ h => h, ⟨hos, htape, hout, by omega, fun k hk => hh k (fun e => hB (e ▸ hk))⟩⟩
    have : k ≠ e.ad.block := fun h => hF o (h ▸ hk)
    rw [cell_same (hh k this)]; exact hu
  have hget : ∀ (i : Nat) (c : Blk), (H.set id b')[i]? = some c → (i = id ∧ c = b') ∨ (i ≠ id ∧ H[i]? = some c) := by
    intro i c h
    by_cases hi : i = id
    · subst hi
      rw [List.getElem?_set_self (idx_lt hb)] at h
      exact .inl ⟨rfl, (Option.some.inj h).symm⟩
    · rw [List.getElem?_set_ne (fun h => hi h.symm)] at h
      exact .inr ⟨hi, h⟩
  refine ⟨hg, by rw [List.length_set]; exact hH.len, fun i c f hc hf' => ?_, fun i c f hc hf' hrc => ?_, fun i j c d f k hc hd hf' hk hrc hrd hij => ?_, fun k o hk => ?_⟩
  · rcases hget i c hc with ⟨rfl, rfl⟩ | ⟨hi, hc'⟩
    · rw [he] at hf'; cases hf'
      exact hbr hg
    · exact BR_gr hg (fun hrc => hh _ (hH.sep i id c b f e hc' hb hf' he hrc hr hi)) (hH.blk i c f hc' hf')
  · rcases hget i c hc with ⟨rfl, rfl⟩ | ⟨hi, hc'⟩
    · rw [he] at hf'; cases hf'
      exact ⟨hB, by omega⟩
    · have := hH.own i c f hc' hf' hrc
      exact ⟨this.1, by omega⟩
  · rcases hget i c hc with ⟨rfl, rfl⟩ | ⟨hi, hc'⟩ <;> rcases hget j d hd with ⟨rfl, rfl⟩ | ⟨hj, hd'⟩
    · exact absurd rfl hij
    · rw [he] at hf'; cases hf'
      exact hH.sep _ j b d _ k hb hd' he hk hr hrd hij
    · rw [he] at hk; cases hk
      exact hH.sep i _ c b f _ hc' hb hf' he hrc hr hij
    · exact hH.sep i j c d f k hc' hd' hf' hk hrc hrd hij
  · obtain ⟨h1, h2⟩ := hH.frz k o hk
    refine ⟨by omega, fun i c f hc hf' hrc hbk => ?_⟩
    rcases hget i c hc with ⟨rfl, rfl⟩ | ⟨hi, hc'⟩
    · rw [he] at hf'; cases hf'
      subst hbk
      exact absurd hk (hF o)
    · exact h2 i c f hc' hf' hrc hbk
theorem HR_kill {id : Nat} (hH : HR B F w g H) : HR B F w g (H.set id .dead) := by
  have hget : ∀ (i : Nat) (c : Blk), (H.set id .dead)[i]? = some c → c = .dead ∨ H[i]? = some c := by
    intro i c h
    by_cases hi : i = id
    · subst hi
      by_cases hl : i < H.length
      · rw [List.getElem?_set_self hl] at h
        exact .inl (Option.some.inj h).symm
      · rw [List.getElem?_eq_none (by simp; omega)] at h; cases h
    · rw [List.getElem?_set_ne (fun h => hi h.symm)] at h
      exact .inr h
  refine ⟨by rw [List.length_set]; exact hH.len, fun i c f hc hf => ?_, fun i c f hc hf hr => ?_, fun i j c d f k hc hd hf hk hrc hrd hij => ?_, fun k o hk => ?_⟩
  · rcases hget i c hc with rfl | hc'
    · trivial
    · exact hH.blk i c f hc' hf
  · rcases hget i c hc with rfl | hc'
    · exact hr.elim
    · exact hH.own i c f hc' hf hr
  · rcases hget i c hc with rfl | hc'
    · exact hrc.elim
    · rcases hget j d hd with rfl | hd'
      · exact hrd.elim
      · exact hH.sep i j c d f k hc' hd' hf hk hrc hrd hij
  · obtain ⟨h1, h2⟩ := hH.frz k o hk
    refine ⟨h1, fun i c f hc hf hr hbk => ?_⟩
    rcases hget i c hc with rfl | hc'
    · exact hr.elim
    · exact h2 i c f hc' hf hr hbk
theorem ext_snoc (g : List GE) (e : GE) (i : Nat) (f : GE) (h : g[i]? = some f) : (g ++ [e])[i]? = some f := by
  rw [List.getElem?_append_left (idx_lt h)]; exact h
theorem get_snoc {β : Type} {l : List β} {x y : β} {i : Nat} (h : (l ++ [x])[i]? = some y) : (i < l.length ∧ l[i]? = some y) ∨ (i = l.length ∧ y = x) := by
  rcases Nat.lt_trichotomy i l.length with h' | h' | h'
  · rw [List.getElem?_append_left h'] at h; exact .inl ⟨h', h⟩
  · subst h'
    rw [List.getElem?_append_right (Nat.le_refl _)] at h
    simp at h; exact .inr ⟨rfl, h.symm⟩
  · rw [List.getElem?_eq_none (by simp; omega)] at h; cases h
structure News (w w' : World) : Prop where
  os : w'.os = w.os
  tape : w'.tape = w.tape
  output : w'.output = w.output
  size : w.heap.size ≤ w'.heap.size
  old : ∀ k, k < w.heap.size → w'.heap[k]? = w.heap[k]?
theorem News.refl (w : World) : News w w := ⟨rfl, rfl, rfl, Nat.le_refl _, fun _ _ => rfl⟩
theorem News.alloc (w : World) (o : Obj) : News w (w.alloc o) := ⟨rfl, rfl, rfl, by simp, fun k hk => Below.heap_alloc _ _ _ hk⟩
theorem News.drew (w : World) : News w w.drew := ⟨rfl, rfl, rfl, Nat.le_refl _, fun _ _ => rfl⟩
theorem News.trans {a b c : World} (h : News a b) (k : News b c) : News a c :=
  ⟨k.os.trans h.os, k.tape.trans h.tape, k.output.trans h.output, Nat.le_trans h.size k.size, fun i hi => (k.old i (Nat.lt_of_lt_of_le hi h.size)).trans (h.old i hi)⟩
theorem News.below {w w' : World} (h : News w w') (hB : Bs B w) : Sam B w w' := ⟨h.os, h.tape, h.output, h.size, fun k hk => h.old k (hB k hk)⟩
theorem News.gr {w' : World} (h : News w w') (hH : HR B F w g H) (hB : Bs B w) : Gr B F g w F g w' :=
  ⟨fun _ _ h => h, fun _ _ h => .inl h, fun k o u hk hu => by rw [cell_same (h.old k (hH.frz k o hk).1)]; exact hu, fun _ _ h => h, h.below hB⟩
theorem News.HR {w' : World} (h : News w w') (hH : HR B F w g H) (hB : Bs B w) : HR B F w' g H := by
  have hg := h.gr hH hB
  have hs := h.size
  refine ⟨hH.len, fun i b e hb he => BR_gr hg (fun hr => h.old _ (hH.own i b e hb he hr).2) (hH.blk i b e hb he), fun i b e hb he hr => ?_, hH.sep, fun k o hk => ?_⟩
  · have := hH.own i b e hb he hr; exact ⟨this.1, by omega⟩
  · obtain ⟨h1, h2⟩ := hH.frz k o hk; exact ⟨by omega, h2⟩
theorem HR_new {w' : World} {e : GE} {b : Blk} (hH : HR B F w g H) (hB : Bs B w) (hn : News w w')
    (hbr : Gr B F g w F (g ++ [e]) w' → BR F w' (g ++ [e]) e b) (hrow : Real b e → w.heap.size ≤ e.ad.block ∧ e.ad.block < w'.heap.size) :
    Gr B F g w F (g ++ [e]) w' ∧ HR B F w' (g ++ [e]) (H ++ [b]) := by
  have hH' := hn.HR hH hB
  have h0 := hn.gr hH hB
  have hg : Gr B F g w F (g ++ [e]) w' := ⟨h0.up, h0.new, h0.cell, fun i f h => ext_snoc g e i f h, h0.below⟩
  have hlen := hH.len
  have hpair : ∀ (i : Nat) (c : Blk) (f : GE), (H ++ [b])[i]? = some c → (g ++ [e])[i]? = some f → (H[i]? = some c ∧ g[i]? = some f) ∨ (i = H.length ∧ c = b ∧ f = e) := by
    intro i c f hc hf
    rcases get_snoc hc with ⟨h1, h2⟩ | ⟨h1, h2⟩ <;> rcases get_snoc hf with ⟨h3, h4⟩ | ⟨h3, h4⟩
    · exact .inl ⟨h2, h4⟩
    · omega
    · omega
    · exact .inr ⟨h1, h2, h4⟩
  have hgg : Gr B F g w' F (g ++ [e]) w' := ⟨fun _ _ h => h, fun _ _ h => .inl h, fun _ _ _ _ h => h, fun i f h => ext_snoc g e i f h, Sam.refl _ _⟩
  refine ⟨hg, by simp [hlen], fun i c f hc hf => ?_, fun i c f hc hf hr => ?_, fun i j c d f k hc hd hf hk hrc hrd hij => ?_, fun k o hk => ?_⟩
  · rcases hpair i c f hc hf with ⟨h1, h2⟩ | ⟨_, rfl, rfl⟩
    · exact BR_gr hgg (fun _ => rfl) (hH'.blk i c f h1 h2)
    · exact hbr hg
  · rcases hpair i c f hc hf with ⟨h1, h2⟩ | ⟨_, rfl, rfl⟩
    · exact hH'.own i c f h1 h2 hr
    · have := hrow hr; exact ⟨hB.out this.1, this.2⟩
  · rcases hpair i c f hc hf with ⟨h1, h2⟩ | ⟨hi, rfl, rfl⟩ <;> rcases hpair j d k hd hk with ⟨h3, h4⟩ | ⟨hj, rfl, rfl⟩
    · exact hH'.sep i j c d f k h1 h3 h2 h4 hrc hrd hij
    · have := (hH.own i c f h1 h2 hrc).2
      have := hrow hrd
      omega
    · have := (hH.own j d k h3 h4 hrd).2
      have := hrow hrc
      omega
    · omega
  · obtain ⟨h1, h2⟩ := hH'.frz k o hk
    refine ⟨h1, fun i c f hc hf hr hbk => ?_⟩
    rcases hpair i c f hc hf with ⟨h3, h4⟩ | ⟨_, rfl, rfl⟩
    · exact h2 i c f h3 h4 hr hbk
    · have := (hH.frz k o hk).1
      have := hrow hr
      omega
end
end Go.Proofs.YtmojilihllhadaaGreatDoor.Ev
/- The operations that look at memory or make some. -/
namespace Go.Proofs.YtmojilihllhadaaGreatDoor.Ev
open Go Go.RowKit
set_option linter.unusedVariables false
set_option linter.unusedSimpArgs false
section
variable {α : Type} {P : Program} {E : Env} {B : Nat → Prop} {F : Fz} {g : List GE} {w : World} {H : Hp}
theorem nth_get {t : Ty} {l : List t.den} {i : Nat} (h : i < l.length) : l[i]? = some (nth t l i) := by
  simp [nth, List.getD, List.getElem?_eq_getElem h]
theorem take_drop_cells {R : AV → Value → Prop} {cs : List AV} {us : List Value} (h : All2 R cs us) {j size : Nat} (hl : j + size ≤ us.length) :
    All2 R ((cs.drop j).take size) ((us.drop j).take size) ∧ ((us.drop j).take size).length = size := by
  refine ⟨(h.drop j).take size, by simp; omega⟩
theorem part_get {us : List Value} {j size k : Nat} {z : Value} (h : ((us.drop j).take size)[k]? = some z) : k < size ∧ us[j + k]? = some z := by
  rw [List.getElem?_take] at h
  split at h
  · rename_i hk; rw [List.getElem?_drop] at h; exact ⟨hk, h⟩
  · cases h
theorem mkVal_ok {agg : Bool} {size : Nat} {cs : List AV} {us : List Value} (h : All2 (VR0 F w g) cs us) (hl : us.length = size) (hs : (agg || size == 1) = true) :
    (agg = true → ∃ cs', mkVal agg cs = .agg cs' ∧ All2 (VR0 F w g) cs' us) ∧ (agg = false → ∃ z, us = [z] ∧ VR0 F w g (mkVal agg cs) z) := by
  refine ⟨fun ha => ?_, fun ha => ?_⟩
  · subst ha; exact ⟨cs, rfl, h⟩
  · subst ha
    have h1 : size = 1 := by simpa using hs
    subst h1
    cases h with
    | nil => cases hl
    | cons h ht =>
      cases ht with
      | nil => exact ⟨_, rfl, h⟩
      | cons => cases hl
theorem arr_flat {t : Ty} {b : Nat} : ∀ (l : List t.den) (base : Nat), (∀ (i : Nat) x, l[i]? = some x → ∃ us, CR F w t x us ∧ us.length = t.size ∧ ∀ j u, us[j]? = some u → w.cell? ⟨b, base + (i * t.size + j), none⟩ = some u) →
    ∃ us, us.length = l.length * t.size ∧ All2 (VR0 F w g) (l.flatMap (explode t)) us ∧ ∀ (j : Nat) z, us[j]? = some z → w.cell? ⟨b, base + j, none⟩ = some z
  | [], base, h => ⟨[], by simp, .nil, fun j z hz => by simp at hz⟩
  | x :: l, base, h => by
    obtain ⟨us, c1, c2, c3⟩ := h 0 x rfl
    obtain ⟨vs, d1, d2, d3⟩ := arr_flat l (base + t.size) fun i y hy => by
      obtain ⟨us', q1, q2, q3⟩ := h (i + 1) y (by simpa using hy)
      refine ⟨us', q1, q2, fun j u hu => ?_⟩
      have := q3 j u hu
      rw [show base + t.size + (i * t.size + j) = base + ((i + 1) * t.size + j) by rw [Nat.succ_mul]; omega]
      exact this
    refine ⟨us ++ vs, by simp only [List.length_append, List.length_cons, c2, d1, Nat.succ_mul]; omega, ?_, fun j z hz => ?_⟩
    · rw [List.flatMap_cons]
      exact (explode_ok t x us c1).append d2
    · by_cases hj : j < us.length
      · rw [List.getElem?_append_left hj] at hz
        have := c3 j z hz
        rw [show base + j = base + (0 * t.size + j) by omega]
        exact this
      · rw [List.getElem?_append_right (by omega)] at hz
        have := d3 _ z hz
        rw [show base + j = base + t.size + (j - us.length) by omega]
        exact this
theorem loadP_ok {agg : Bool} {size : Nat} {p v : AV} {u : Value} (h : loadP H agg size p = some v) (hp : VR0 F w g p u) (hH : HR B F w g H) :
    ∃ b o us, u = .pointer (some ⟨b, o, none⟩) ∧ us.length = size ∧ (∀ j z, us[j]? = some z → w.cell? ⟨b, o + j, none⟩ = some z) ∧
      (agg = true → ∃ cs, v = .agg cs ∧ All2 (VR0 F w g) cs us) ∧ (agg = false → ∃ z, us = [z] ∧ VR0 F w g v z) := by
  cases p with
  | ptr id i =>
    simp only [loadP] at h
    split at h
    · rename_i T cs hb
      split at h
      · rename_i hc
        cases h
        simp only [Bool.and_eq_true] at hc
        obtain ⟨hc1, hc2⟩ := hc
        have hc2 := Nat.le_of_ble_eq_true hc2
        obtain ⟨e, he, rfl⟩ := hp
        obtain ⟨h1, h2, vs, h3, h4⟩ := hH.blk id _ e hb he
        have hlen := h4.length
        obtain ⟨ha, hl⟩ := take_drop_cells h4 (j := i) (size := size) (by omega)
        obtain ⟨m1, m2⟩ := mkVal_ok ha hl hc1
        refine ⟨e.ad.block, i, _, rfl, hl, fun j z hz => ?_, m1, m2⟩
        rw [cell_of_block h3, ← Array.getElem?_toList]
        exact (part_get hz).2
      · cases h
    · cases h
  | eptr id i j =>
    simp only [loadP] at h
    split at h
    · rename_i t l s hb
      split at h
      · rename_i hc
        cases h
        simp only [Bool.and_eq_true] at hc
        obtain ⟨hc1, hc2⟩ := hc
        have hc2 := Nat.le_of_ble_eq_true hc2
        obtain ⟨e, he, hi, rfl⟩ := hp
        obtain ⟨h1, h2, _⟩ := hH.blk id _ e hb he
        obtain ⟨hcap, us, ha, hl, hu⟩ := arr_rows hH hb he i _ (nth_get (by omega))
        obtain ⟨hb1, hb2⟩ := take_drop_cells (explode_ok (g := g) t _ us ha) (j := j) (size := size) (by omega)
        obtain ⟨m1, m2⟩ := mkVal_ok hb1 hb2 hc1
        refine ⟨e.ad.block, _, _, rfl, hb2, fun k z hz => ?_, m1, m2⟩
        have := hu (j + k) z (part_get hz).2
        rw [h1]
        rw [show e.ad.off + (i * t.size + j) + k = e.ad.off + (i * t.size + (j + k)) by omega]
        exact this
      · cases h
    · cases h
  | rptr t l i j =>
    simp only [loadP] at h
    split at h
    · rename_i hc
      cases h
      simp only [Bool.and_eq_true] at hc
      obtain ⟨hc1, hc2⟩ := hc
      have hc2 := Nat.le_of_ble_eq_true hc2
      obtain ⟨ad, rfl, hi, hs, hr⟩ := hp
      obtain ⟨ad', he, hs', us, ha, hl, hu⟩ := hr i _ (nth_get hi)
      cases he
      obtain ⟨hb1, hb2⟩ := take_drop_cells (explode_ok (g := g) t _ us ha) (j := j) (size := size) (by omega)
      obtain ⟨m1, m2⟩ := mkVal_ok hb1 hb2 hc1
      refine ⟨ad.block, _, _, rfl, hb2, fun k z hz => ?_, m1, m2⟩
      have := (hu (j + k) z (part_get hz).2).2
      rw [show ad.off + (i * t.size + j) + k = ad.off + (i * t.size + (j + k)) by omega]
      exact this
    · cases h
  | aptr id sz n =>
    simp only [loadP] at h
    split at h
    · rename_i t l s hb
      split at h
      · rename_i hc
        cases h
        simp only [Bool.and_eq_true] at hc
        obtain ⟨⟨hc1, hc2⟩, hc3⟩ := hc
        have hc2 := Nat.eq_of_beq_eq_true hc2
        obtain ⟨e, he, hn, hsz, hcap, rfl⟩ := hp
        obtain ⟨h1, h2, _⟩ := hH.blk id _ e hb he
        obtain ⟨us, u1, u2, u3⟩ := arr_flat (F := F) (w := w) (g := g) (b := e.ad.block) l e.ad.off fun i x hx => (arr_rows hH hb he i x hx).2
        refine ⟨e.ad.block, _, us, rfl, by rw [u1, hc2, ← hn, h2], u3, fun _ => ⟨_, rfl, u2⟩, fun hf => by rw [hc1] at hf; cases hf⟩
      · cases h
    · cases h
  | _ => cases h
theorem run_sizeOf {t : TypeId} {i : TypeInfo} (h : P.info? t = some i) : (sizeOf t).run P w = .ok i.size w := by
  simp [sizeOf, typeInfo, program, Sem.run_bind, Sem.run, h, Result.andThen]
theorem loadVar_ok {t : TypeId} {i : TypeInfo} {agg : Bool} {b o : Nat} {us : List Value} {v : AV} (hi : P.info? t = some i) (hs : i.size = us.length) (ha : (isAgg t).run P = fun w => .ok agg w)
    (hc : ∀ j z, us[j]? = some z → w.cell? ⟨b, o + j, none⟩ = some z)
    (h1 : agg = true → ∃ cs, v = .agg cs ∧ All2 (VR0 F w g) cs us) (h2 : agg = false → ∃ z, us = [z] ∧ VR0 F w g v z) :
    ∃ z, (loadVar t ⟨b, o, none⟩).run P w = .ok z w ∧ VR1 F w g v z := by
  cases agg with
  | true =>
    obtain ⟨cs, rfl, hcs⟩ := h1 rfl
    refine ⟨.agg us.toArray, ?_, us.toArray, rfl, by simpa using hcs⟩
    simp only [loadVar, Sem.run_bind, ha, Result.andThen, if_true, run_sizeOf hi, hs]
    rw [run_loadCells_list w ⟨b, o, none⟩ us (fun j z hz => by rw [Addr.add_plain _ rfl]; exact hc j z hz)]
    rfl
  | false =>
    obtain ⟨z, rfl, hz⟩ := h2 rfl
    refine ⟨z, ?_, ?_⟩
    · simp only [loadVar, Sem.run_bind, ha, Result.andThen, Bool.false_eq_true, if_false]
      have := hc 0 z rfl
      simp only [Nat.add_zero] at this
      simp [load, Sem.run, this]
    · cases v <;> first | exact hz | exact hz.elim | (obtain ⟨rfl, rfl⟩ := hz; exact ⟨#[], rfl, .nil⟩)
theorem splice_get {β : Type} {l zs : List β} {o m : Nat} (h : o + zs.length ≤ l.length) :
    (l.take o ++ zs ++ l.drop (o + zs.length))[m]? = if m < o then l[m]? else if m < o + zs.length then zs[m - o]? else l[m]? := by
  have h1 : (l.take o).length = o := by simp; omega
  by_cases ha : m < o
  · rw [if_pos ha, List.append_assoc, List.getElem?_append_left (by omega), List.getElem?_take, if_pos ha]
  · rw [if_neg ha]
    by_cases hb : m < o + zs.length
    · rw [if_pos hb, List.getElem?_append_left (by simp; omega), List.getElem?_append_right (by omega), h1]
    · rw [if_neg hb, List.getElem?_append_right (by simp; omega), List.getElem?_drop]
      congr 1
      simp; omega
theorem ownIds_explode : (t : Ty) → (x : t.den) → ownIds (explode t x) = []
  | .int _, _ => rfl
  | .bool, _ => rfl
  | .str, _ => rfl
  | .unit, _ => rfl
  | .sl _, _ => rfl
  | .st t, x => ownIds_explode t x
  | .pair a b, x => by simp [explode, ownIds_append, ownIds_explode a, ownIds_explode b]
theorem ownIds_sub {a b : List AV} (h : ∀ v ∈ a, v ∈ b) (i : Nat) (hi : i ∈ ownIds a) : i ∈ ownIds b := by
  simp only [ownIds, List.mem_filterMap] at hi ⊢
  obtain ⟨v, hv, h2⟩ := hi
  exact ⟨v, h v hv, h2⟩
theorem lendAll_other : ∀ (ids : List Nat) (H : Hp) (i : Nat), i ∉ ids → (lendAll H ids)[i]? = H[i]?
  | [], _, _, _ => rfl
  | a :: ids, H, i, h => by
    have hn := not_or.1 (fun k => h (List.mem_cons.2 k))
    show (lendAll (lend1 H a) ids)[i]? = _
    rw [lendAll_other ids _ i hn.2]
    have hne : ¬ (a = i) := fun e => hn.1 e.symm
    simp only [lend1, List.getElem?_modify, if_neg hne]
    cases H[i]? <;> rfl
theorem storeP_ok {size : Nat} {p v : AV} {u z : Value} {H' : Hp} {t : TypeId} {i : TypeInfo} (hi : P.info? t = some i) (hs : i.size = size)
    (h : storeP H size v p = some H') (hp : VR0 F w g p u) (hv : VR1 F w g v z) (hH : HR B F w g H) (hB : Bs B w) :
    ∃ a w' F', u = .pointer (some a) ∧ (storeVar t a z).run P w = .ok () w' ∧ Gr B F g w F' g w' ∧ HR B F' w' g H' := by
  have hrun : ∀ (b o : Nat) (cur : Array Value) (el : TypeId), w.heap[b]? = some (.cells cur el (0, 0)) → o + z.cells.toList.length ≤ cur.size → z.cells.toList.length = size →
      (∀ q ∈ z.cells.toList, q.oneCell' = true) → (storeVar t ⟨b, o, none⟩ z).run P w = .ok () (w.setRow b (cur.toList.take o ++ z.cells.toList ++ cur.toList.drop (o + z.cells.toList.length)).toArray) := by
    intro b o cur el hb ho hl hq
    have hsz : ¬ (z.cells.size ≠ i.size) := by rw [hs, ← hl]; simp
    simp only [storeVar, Sem.run_bind, run_sizeOf hi, Result.andThen]
    rw [if_neg hsz]
    have := run_storeCells_at (P := P) b o el z.cells.toList 0 cur w hb (by omega) hq
    simpa using this
  cases p with
  | ptr id j =>
    simp only [storeP] at h
    split at h
    · rename_i T cs hb
      split at h
      · rename_i hc
        cases h
        simp only [Bool.and_eq_true] at hc
        obtain ⟨⟨hc0, hc1⟩, hc2⟩ := hc
        have hc2 := Nat.le_of_ble_eq_true hc2
        have hc1 := eq_of_beq hc1
        obtain ⟨hcells, hone⟩ := solid_cells hc0 hv
        have hzl : z.cells.toList.length = size := by rw [← hcells.length]; exact hc1
        obtain ⟨e, he, rfl⟩ := hp
        obtain ⟨h1, h2, cur, h3, h4⟩ := hH.blk id _ e hb he
        have hlen := h4.length
        have hcl : cur.toList.length = cur.size := by simp
        refine ⟨_, _, F, rfl, hrun e.ad.block j cur T h3 (by omega) hzl hone, ?_⟩
        refine HR_set hH hb he trivial (.inl ⟨_, _, rfl⟩) rfl rfl rfl (by simp) (fun k hk => setRow_other _ _ _ _ hk) (fun hg => ?_) (by intro _ _ h; cases h)
        refine ⟨h1, h2, _, setRow_heap w _ _ _ _ _ h3, ?_⟩
        have hA := ((h4.take j).append hcells).append (h4.drop (j + size))
        rw [show j + size = j + z.cells.toList.length by rw [hzl]] at hA ⊢
        exact hA.mono fun _ _ => VR0_gr hg
      · cases h
    · cases h
  | eptr id q j =>
    simp only [storeP] at h
    split at h
    · rename_i te l hb
      split at h
      · cases h
      · rename_i hc
        split at h
        · rename_i x hni hx
          cases h
          simp only [Bool.and_eq_true] at hc
          obtain ⟨⟨hc0, hc1⟩, hc2⟩ := hc
          have hc2 := Nat.le_of_ble_eq_true hc2
          have hc1 := eq_of_beq hc1
          obtain ⟨hcells, hone⟩ := solid_cells hc0 hv
          have hzl : z.cells.toList.length = size := by rw [← hcells.length]; exact hc1
          obtain ⟨e, he, hq, rfl⟩ := hp
          obtain ⟨h1, h2, h3, h4, h5⟩ := hH.blk id _ e hb he
          have hql : q < l.length := by omega
          obtain ⟨hcap, us, ha, hl, hu⟩ := arr_rows hH hb he q _ (nth_get hql)
          obtain ⟨cur, el, h7, ku, h8, h9⟩ := h5 hcap
          have hex := explode_ok (g := g) te _ us ha
          have hall := ((hex.take j).append hcells).append (hex.drop (j + size))
          obtain ⟨pre, v1, v2, e1, e2, hCR, hr0⟩ := collapse_ok hH te _ _ _ _ hx hall
          cases hr0
          simp only [List.append_nil] at e1 e2
          subst e2
          have hids : ∀ i ∈ ownIds pre, i ∈ ownIds (cellsOf v) := by
            intro i hi
            rw [← e1, ownIds_append, ownIds_append] at hi
            have hno : ∀ (m : List AV), (∀ y ∈ m, y ∈ explode te (nth te l q)) → i ∉ ownIds m := fun m hm hi => by
              have := ownIds_sub hm i hi
              rw [ownIds_explode] at this; cases this
            rcases List.mem_append.1 hi with hi | hi
            · rcases List.mem_append.1 hi with hi | hi
              · exact absurd hi (hno _ fun y hy => List.mem_of_mem_take hy)
              · exact hi
            · exact absurd hi (hno _ fun y hy => List.mem_of_mem_drop hy)
          have hni' : id ∉ ownIds (cellsOf v) := by
            intro hc
            have : (ownIds (cellsOf v)).contains id = true := by simpa using hc
            rw [this] at hni; cases hni
          have hH1 := lend_HR hH (ownIds (cellsOf v))
          have hg1 := lend_gr hH (ownIds (cellsOf v))
          have hb1 : (lendAll H (ownIds (cellsOf v)))[id]? = some (.arr te l false) := by rw [lendAll_other _ _ _ hni']; exact hb
          have hCR' := CR_lend hids hCR
          have hcl : cur.toList.length = cur.size := by simp
          have hjl := mul_lt_of hql (sz := te.size) (j := te.size - 1)
          have hin : e.ad.off + (q * te.size + j) + z.cells.toList.length ≤ cur.size := by
            have h10 : (q + 1) * te.size ≤ e.cap * te.size := Nat.mul_le_mul_right _ (by omega)
            rw [Nat.add_mul, Nat.one_mul] at h10
            omega
          have hset := HR_set (w' := w.setRow e.ad.block (cur.toList.take (e.ad.off + (q * te.size + j)) ++ z.cells.toList ++ cur.toList.drop (e.ad.off + (q * te.size + j) + z.cells.toList.length)).toArray)
            (b' := .arr te (l.set q x) false) hH1 hb1 he hcap (.inr (.inl ⟨_, _, rfl⟩)) rfl rfl rfl (by simp) (fun k hk => setRow_other _ _ _ _ hk) (fun hg => by
              refine ⟨h1, by simpa using h2, by simpa using h3, h4, fun _ => ?_⟩
              refine ⟨_, el, setRow_heap w _ _ _ _ _ h7, ku, ?_, fun k y hy => ?_⟩
              · have : ∀ (n : Nat), n + z.cells.toList.length ≤ cur.toList.length → (cur.toList.take n ++ z.cells.toList ++ cur.toList.drop (n + z.cells.toList.length)).length = cur.toList.length := by
                  intro n hn; simp; simp at hn; omega
                rw [← Array.length_toList, List.toList_toArray, this _ (by omega)]
                omega
              · by_cases hkq : k = q
                · subst hkq
                  rw [List.getElem?_set_self hql] at hy
                  cases hy
                  refine ⟨_, CR_gr hg hCR', fun m u hm => ?_⟩
                  rw [← Array.getElem?_toList, List.toList_toArray]
                  have hms := idx_lt hm
                  have hus : us.length = te.size := hl
                  rw [hzl.symm, splice_get (by omega)] at hm
                  rw [splice_get (by omega)]
                  have hml : m < te.size := by
                    simp only [List.length_append, List.length_take, List.length_drop] at hms; omega
                  by_cases c1 : m < j
                  · rw [if_pos c1] at hm
                    rw [if_pos (by omega), Array.getElem?_toList, ← cell_of_block h7]
                    exact hu m u hm
                  · rw [if_neg c1] at hm
                    rw [if_neg (by omega)]
                    by_cases c2 : m < j + z.cells.toList.length
                    · rw [if_pos c2] at hm
                      rw [if_pos (by omega), ← hm]
                      congr 1; omega
                    · rw [if_neg c2] at hm
                      rw [if_neg (by omega), Array.getElem?_toList, ← cell_of_block h7]
                      exact hu m u hm
                · rw [List.getElem?_set_ne (fun h => hkq h.symm)] at hy
                  obtain ⟨us', hus', hu'⟩ := h9 k y hy
                  refine ⟨us', CR_gr (hg1.trans hg) hus', fun m u hm => ?_⟩
                  rw [← Array.getElem?_toList, List.toList_toArray, splice_get (l := cur.toList) (zs := z.cells.toList) (o := e.ad.off + (q * te.size + j)) (by omega)]
                  have hm' := idx_lt hm
                  rw [CR_len _ _ _ hus'] at hm'
                  have hout : e.ad.off + (k * te.size + m) < e.ad.off + (q * te.size + j) ∨ e.ad.off + (q * te.size + j) + z.cells.toList.length ≤ e.ad.off + (k * te.size + m) := by
                    rcases Nat.lt_or_gt_of_ne hkq with hlt | hgt
                    · have := mul_lt_of hlt hm'
                      left; omega
                    · have : (q + 1) * te.size ≤ k * te.size := Nat.mul_le_mul_right _ hgt
                      rw [Nat.add_mul, Nat.one_mul] at this
                      right; omega
                  rcases hout with ho | ho
                  · rw [if_pos ho, Array.getElem?_toList]; exact hu' m u hm
                  · rw [if_neg (by omega), if_neg (by omega), Array.getElem?_toList]; exact hu' m u hm) (by intro _ _ h; cases h)
          refine ⟨_, _, _, by rw [h1], hrun e.ad.block _ cur el h7 hin hzl hone, hg1.trans hset.1, hset.2⟩
        · cases h
    · cases h
  | aptr id sz n =>
    simp only [storeP] at h
    split at h
    · rename_i te l hb
      split at h
      · rename_i l' hc hl'
        cases h
        simp only [Bool.and_eq_true, Bool.not_eq_true'] at hc
        obtain ⟨⟨⟨⟨hc0, hc1⟩, hc2⟩, hc3⟩, hc4⟩ := hc
        have hc1 := eq_of_beq hc1
        have hc2 := Nat.eq_of_beq_eq_true hc2
        have hc4 : 0 < n := by simpa [Nat.blt_eq] using hc4
        obtain ⟨hcells, hone⟩ := solid_cells hc0 hv
        have hzl : z.cells.toList.length = size := by rw [← hcells.length]; exact hc1
        obtain ⟨k1, k2, k3⟩ := rowsOf_ok hc3 n _ _ l' hl' hcells
        obtain ⟨e, he, hn, hsz, hcap, rfl⟩ := hp
        obtain ⟨h1, h2, h3, h4, h5⟩ := hH.blk id _ e hb he
        obtain ⟨cur, el, h7, ku, h8, h9⟩ := h5 (by omega)
        have hcl : cur.toList.length = cur.size := by simp
        have hin : e.ad.off + z.cells.toList.length ≤ cur.size := by
          rw [hzl, hc2, ← hcap]; exact h8
        have hset := HR_set (w' := w.setRow e.ad.block (cur.toList.take e.ad.off ++ z.cells.toList ++ cur.toList.drop (e.ad.off + z.cells.toList.length)).toArray)
          (b' := .arr te l' false) hH hb he (show 0 < e.cap by omega) (.inr (.inl ⟨_, _, rfl⟩)) rfl rfl rfl (by simp) (fun k hk => setRow_other _ _ _ _ hk) (fun hg => by
            refine ⟨h1, by omega, by omega, h4, fun _ => ?_⟩
            refine ⟨_, el, setRow_heap w _ _ _ _ _ h7, ku, ?_, fun k y hy => ?_⟩
            · have : ∀ (n : Nat), n + z.cells.toList.length ≤ cur.toList.length → (cur.toList.take n ++ z.cells.toList ++ cur.toList.drop (n + z.cells.toList.length)).length = cur.toList.length := by
                intro n hn; simp; simp at hn; omega
              rw [← Array.length_toList, List.toList_toArray, this _ (by omega)]
              omega
            · obtain ⟨us, c1, c2⟩ := k3 k y hy
              refine ⟨us, CR_gr hg c1, fun m u hm => ?_⟩
              have hm2 := c2 m u hm
              have hm3 := idx_lt hm2
              rw [← Array.getElem?_toList, List.toList_toArray, splice_get (l := cur.toList) (zs := z.cells.toList) (o := e.ad.off) (by omega), if_neg (by omega), if_pos (by omega), ← hm2]
              congr 1; omega) (by intro _ _ h; cases h)
        exact ⟨_, _, F, rfl, hrun e.ad.block e.ad.off cur el h7 hin hzl hone, hset⟩
      · cases h
    · cases h
  | _ => cases h
end
end Go.Proofs.YtmojilihllhadaaGreatDoor.Ev
