/- The evaluator: Ev34, EvP, EvM. -/
import Derived.Test.YtmojilihllhadaaGreatDoorEv33
import Derived.Deep.Slices
import Derived.Lib.SmallJoins
import Derived.WideShapes
import Derived.Test.YtmojilihllhadaaGreatDoorEv31
/- From a reading of the form's (DataW.trod) to the evaluator's plain data. -/
namespace Go.Proofs.YtmojilihllhadaaGreatDoor.Ev
open Go Go.RowKit Go.Deep Go.ChangeShapes Go.WideShapes
set_option linter.unusedVariables false
set_option linter.unusedSimpArgs false
def good : (t : Ty) → t.den → Prop
  | .int k, n => (Lit.int k n).wf = true
  | .bool, _ => True
  | .str, s => s.size ≤ maxLen
  | .sl t, l => l.length ≤ maxLen ∧ ∀ x ∈ l, good t x
  | .unit, _ => True
  | .pair a b, x => good a x.1 ∧ good b x.2
  | .st t, x => good t x
def Lt (w : World) : Fz := fun b _ => b < w.heap.size
def Opens (P : Program) (t : Nat) (τ : Ty) : Prop :=
  ∀ (H : Type) (enc : TypeId × Value → H) (w : World) (base fuel : Nat) (spare : Nat → Bool) (held : Bool) (cs : List Value) (x : DataW H × List MemPlace),
    DataW.trod enc P w base spare held fuel t cs = some x → ∃ a : τ.den, good τ a ∧ CR (Lt w) w τ a cs
theorem list_of {α : Type} {n : Nat} {p : Nat → α → Prop} (h : ∀ i, i < n → ∃ x, p i x) : ∃ xs : List α, xs.length = n ∧ ∀ i x, xs[i]? = some x → p i x := by
  induction n with
  | zero => exact ⟨[], rfl, fun i x hx => by simp at hx⟩
  | succ n ih =>
    obtain ⟨xs, hl, hp⟩ := ih (fun i hi => h i (by omega))
    obtain ⟨y, hy⟩ := h n (by omega)
    refine ⟨xs ++ [y], by simp [hl], fun i x hx => ?_⟩
    rcases Nat.lt_or_ge i n with hi | hi
    · rw [List.getElem?_append_left (by omega)] at hx
      exact hp i x hx
    · have hi' : i < (xs ++ [y]).length := (List.getElem?_eq_some_iff.1 hx).1
      have : i = n := by simp [hl] at hi'; omega
      subst this
      rw [List.getElem?_append_right (by omega)] at hx
      simp [hl] at hx
      rw [← hx]
      exact hy
theorem cell_spot {w : World} {a : Addr} {u : Value} (h : w.cell? a = some u) : a.spot = none ∧ a.block < w.heap.size := by
  unfold World.cell? at h
  split at h
  · rename_i hb
    split at h
    · cases h
    · rename_i hs
      refine ⟨by cases hh : a.spot with
        | none => rfl
        | some s => rw [hh] at hs; simp at hs, (Array.getElem?_eq_some_iff.1 hb).1⟩
  · cases h
theorem opens_sl {P : Program} {t e : Nat} {τ : Ty} (he : Opens P e τ) (ht : P.underlying t = some (.slice e)) (hc : P.cellsOf e = τ.size) (hz : 0 < τ.size) : Opens P t (.sl τ) := by
  intro H enc w base fuel spare held cs x h
  rcases open_slice ht h with ⟨rfl, _⟩ | ⟨a, len, cap, m, n, D, Pl, rfl, _, hl, hm, hmm, _, hx⟩
  · exact ⟨[], ⟨Nat.zero_le _, by simp⟩, none, 0, rfl, Nat.le_refl _, fun i x hx => by simp at hx⟩
  · have hlm : len ≤ m := by rw [hmm]; split <;> omega
    have one : ∀ i, i < len → ∃ a' : τ.den, good τ a' ∧ ∃ cs', cs'.length = τ.size ∧ CR (Lt w) w τ a' cs' ∧ ∀ j u, cs'[j]? = some u → w.cell? (a.add (i * τ.size + j)) = some u := by
      intro i hi
      obtain ⟨cs', h1, h2⟩ := hx i (by omega)
      obtain ⟨a', ga, ka⟩ := he _ _ _ _ _ _ _ _ _ h2
      refine ⟨a', ga, cs', CR_len _ _ _ ka, ka, fun j u hj => ?_⟩
      rw [hc] at h1
      obtain ⟨_, hlen, hcell⟩ := World.cells?_some h1
      have hj' : j < τ.size := by
        have := (List.getElem?_eq_some_iff.1 hj).1
        rw [CR_len _ _ _ ka] at this
        exact this
      have := hcell j hj'
      rw [Deep.add_add] at this
      rw [this, hj]
    obtain ⟨xs, hxl, hp⟩ := list_of one
    have hadd : ∀ n, (a.add n).block = a.block := fun n => by unfold Addr.add; split <;> rfl
    have hspot : xs ≠ [] → a.spot = none := by
      intro hne
      cases hxs : xs with
      | nil => exact absurd hxs hne
      | cons y ys =>
        obtain ⟨_, cs', h1, _, h3⟩ := hp 0 y (by rw [hxs]; rfl)
        obtain ⟨u, hu⟩ : ∃ u, cs'[0]? = some u := ⟨cs'[0]'(by omega), by simp⟩
        have := (cell_spot (h3 0 u hu)).1
        unfold Addr.add at this
        split at this
        · exact this
        · rename_i hne; exact absurd (by simp) hne
    refine ⟨xs, ⟨by rw [hxl]; omega, fun x hx' => ?_⟩, some a, cap, by rw [hxl], by rw [hxl]; exact hl, fun i x hi => ?_⟩
    · obtain ⟨i, hi⟩ := List.getElem?_of_mem hx'
      exact (hp i x hi).1
    · obtain ⟨_, cs', h1, h2, h3⟩ := hp i x hi
      have hs := hspot (by rintro rfl; simp at hi)
      refine ⟨a, rfl, hs, cs', h2, h1, fun j u hj => ?_⟩
      have hcell := h3 j u hj
      have hb := (cell_spot hcell).2
      rw [hadd] at hb
      rw [Addr.add_plain a hs] at hcell
      exact ⟨hb, hcell⟩
def OpensF (P : Program) (o : Nat) (fs : List Field) (τ : Ty) : Prop :=
  ∀ (H : Type) (enc : TypeId × Value → H) (w : World) (base fuel : Nat) (spare : Nat → Bool) (held : Bool) (cs : List Value),
    cs.length = o + τ.size → (∀ f ∈ fs, ∃ x, DataW.trod enc P w base spare held fuel f.type ((cs.drop f.offset).take (P.cellsOf f.type)) = some x) → ∃ a : τ.den, good τ a ∧ CR (Lt w) w τ a (cs.drop o)
theorem opensF_nil {P : Program} {o : Nat} : OpensF P o [] .unit := by
  intro H enc w base fuel spare held cs hl hf
  exact ⟨(), trivial, by rw [List.drop_eq_nil_of_le (by rw [hl]; exact Nat.le_refl _)]; rfl⟩
theorem opensF_cons {P : Program} {o : Nat} {f : Field} {fs : List Field} {τ τ' : Ty} (h : Opens P f.type τ) (ho : f.offset = o) (hc : P.cellsOf f.type = τ.size)
    (ht : OpensF P (o + τ.size) fs τ') : OpensF P o (f :: fs) (.pair τ τ') := by
  intro H enc w base fuel spare held cs hl hf
  have hl' : cs.length = o + τ.size + τ'.size := by rw [hl]; show o + (τ.size + τ'.size) = _; omega
  obtain ⟨x, hx⟩ := hf f (by simp)
  rw [ho, hc] at hx
  obtain ⟨a, ga, ka⟩ := h _ _ _ _ _ _ _ _ _ hx
  obtain ⟨b, gb, kb⟩ := ht _ _ _ _ _ _ _ _ hl' (fun f' hf' => hf f' (List.mem_cons_of_mem _ hf'))
  refine ⟨(a, b), ⟨ga, gb⟩, (cs.drop o).take τ.size, cs.drop (o + τ.size), ?_, ka, kb⟩
  rw [← List.drop_drop, List.take_append_drop]
theorem opens_st {P : Program} {t : Nat} {fs : Array Field} {τ : Ty} (ht : P.underlying t = some (.struct fs)) (hc : P.cellsOf t = τ.size) (h : OpensF P 0 fs.toList τ) : Opens P t (.st τ) := by
  intro H enc w base fuel spare held cs x hx
  obtain ⟨xs, n, _, _, hl, hlen, hf⟩ := DataW.trod_struct ht hx
  have := h H enc w base n spare held cs (by rw [hl, hc]; omega) (fun f hf' => by
    obtain ⟨i, hi⟩ := List.getElem?_of_mem hf'
    have hi' : fs[i]? = some f := by rw [← Array.getElem?_toList]; exact hi
    have := hf i f hi'
    have hlt : i < xs.length := by
      have := (Array.getElem?_eq_some_iff.1 hi').1
      omega
    rw [List.getElem?_eq_getElem hlt] at this
    exact ⟨_, this⟩)
  obtain ⟨a, ga, ka⟩ := this
  exact ⟨a, ga, show CR (Lt w) w τ a cs by simpa using ka⟩
def opF (P : Program) (rec : TypeId → Option Ty) : Nat → List Field → Option Ty
  | _, [] => some .unit
  | o, f :: fs => match rec f.type with
    | some τ => match Nat.beq f.offset o && Nat.beq (P.cellsOf f.type) τ.size, opF P rec (o + τ.size) fs with
      | true, some τ' => some (.pair τ τ')
      | _, _ => none
    | none => none
def opTy (P : Program) : Nat → TypeId → Option Ty
  | 0, _ => none
  | n + 1, t => match P.underlying t with
    | some (.int k) => some (.int k)
    | some .bool => some .bool
    | some .string => some .str
    | some (.slice e) => match opTy P n e with
      | some τ => match Nat.beq (P.cellsOf e) τ.size && Nat.blt 0 τ.size with
        | true => some (.sl τ)
        | false => none
      | none => none
    | some (.struct fs) => match opF P (opTy P n) 0 fs.toList with
      | some τ => match Nat.beq (P.cellsOf t) τ.size with
        | true => some (.st τ)
        | false => none
      | none => none
    | _ => none
theorem opF_ok {P : Program} {rec : TypeId → Option Ty} (hr : ∀ t τ, rec t = some τ → Opens P t τ) : ∀ (fs : List Field) (o : Nat) (τ : Ty), opF P rec o fs = some τ → OpensF P o fs τ
  | [], o, τ, h => by cases h; exact opensF_nil
  | f :: fs, o, τ, h => by
    simp only [opF] at h
    split at h
    · rename_i τ1 h1
      split at h
      · rename_i τ2 hb h2
        cases h
        simp only [Bool.and_eq_true] at hb
        exact opensF_cons (hr _ _ h1) (Nat.eq_of_beq_eq_true hb.1) (Nat.eq_of_beq_eq_true hb.2) (opF_ok hr fs _ _ h2)
      · cases h
    · cases h
theorem opTy_ok {P : Program} : ∀ (n : Nat) (t : TypeId) (τ : Ty), opTy P n t = some τ → Opens P t τ
  | 0, _, _, h => by cases h
  | n + 1, t, τ, h => by
    simp only [opTy] at h
    split at h
    · rename_i k hu
      cases h
      intro H enc w base fuel spare held cs x h
      obtain ⟨n, e, _, hw⟩ := DataW.trod_int hu h
      exact ⟨n, hw, e⟩
    · rename_i hu
      cases h
      intro H enc w base fuel spare held cs x h
      obtain ⟨b, e, _⟩ := DataW.trod_bool hu h
      exact ⟨b, trivial, e⟩
    · rename_i hu
      cases h
      intro H enc w base fuel spare held cs x h
      obtain ⟨s, e, _, hw⟩ := DataW.trod_string hu h
      exact ⟨s, hw, e⟩
    · rename_i e hu
      split at h
      · rename_i τ1 h1
        split at h
        · rename_i hb
          cases h
          simp only [Bool.and_eq_true] at hb
          exact opens_sl (opTy_ok n _ _ h1) hu (Nat.eq_of_beq_eq_true hb.1) (by simpa [Nat.blt_eq] using hb.2)
        · cases h
      · cases h
    · rename_i fs hu
      split at h
      · rename_i τ1 h1
        split at h
        · rename_i hb
          cases h
          exact opens_st hu (Nat.eq_of_beq_eq_true hb) (opF_ok (opTy_ok n) _ _ _ h1)
        · cases h
      · cases h
    · cases h
/-! ### An argument -/
def arg (τ : Ty) (x : τ.den) : AV := toAV τ x
theorem arg_ok {P : Program} {t : TypeId} {τ : Ty} (ho : opTy P 12 t = some τ) {H : Type} {enc : TypeId × Value → H} {w : World} {r : Reach} {base b0 : Nat} {spare : Nat → Bool} {held : Bool} {v : Value} {x : DataW H} {ps : List MemPlace}
    (hv : Value.okWide P w r b0 t v) (h : DataW.Trod enc P w base spare held t v x ps) : ∃ a : τ.den, good τ a ∧ VR2 (Lt w) w [] (arg τ a) v := by
  obtain ⟨fuel, hf⟩ := h
  obtain ⟨a, ga, ka⟩ := opTy_ok 12 t τ ho _ _ _ _ _ _ _ _ _ hf
  refine ⟨a, ga, ?_⟩
  simp only [opTy] at ho
  split at ho
  · rename_i k hu
    cases ho
    obtain ⟨n, rfl⟩ := okWide_int hu hv
    have : n = a := by simpa [CR, Value.cells] using ka
    subst this
    rfl
  · rename_i hu
    cases ho
    obtain ⟨n, rfl⟩ := okWide_bool hu hv
    have : n = a := by simpa [CR, Value.cells] using ka
    subst this
    rfl
  · rename_i hu
    cases ho
    obtain ⟨n, rfl⟩ := okWide_string hu hv
    have : n = a := by simpa [CR, Value.cells] using ka
    subst this
    rfl
  · rename_i e hu
    split at ho
    · rename_i τ1 _
      split at ho
      · cases ho
        obtain ⟨a0, len, cap, rfl⟩ := okWide_slice hu hv
        exact ka
      · cases ho
    · cases ho
  · rename_i fs hu
    split at ho
    · rename_i τ1 _
      split at ho
      · cases ho
        obtain ⟨cs, rfl, _⟩ := okWide_struct hu hv
        exact ⟨cs, rfl, explode_ok τ1 a _ ka⟩
      · cases ho
    · cases ho
  · cases ho
end Go.Proofs.YtmojilihllhadaaGreatDoor.Ev
/- Laws on what the evaluator says: for the proofs about numbers, texts and lists. -/
namespace Go.Proofs.YtmojilihllhadaaGreatDoor.Ev
open Go
set_option linter.unusedVariables false
set_option linter.unusedSimpArgs false
def Says {β : Type} (f : Nat → Option β) (r : β) : Prop := ∃ k, ∀ n, k ≤ n → f n = some r
section
variable {α β : Type} {r : β}
theorem Says.now (r : β) : Says (fun _ => some r) r := ⟨0, fun _ _ => rfl⟩
theorem Says.step {f g : Nat → Option β} (h : ∀ n, f (n + 1) = g n) (hg : Says g r) : Says f r := by
  obtain ⟨k, hk⟩ := hg
  refine ⟨k + 1, fun n hn => ?_⟩
  obtain ⟨m, rfl⟩ : ∃ m, n = m + 1 := ⟨n - 1, by omega⟩
  rw [h]; exact hk m (by omega)
theorem Says.bind {A : Nat → Option α} {B : Nat → α → Option β} {a : α} (h : Says A a) (k : Says (fun n => B n a) r) : Says (fun n => (A n).bind (B n)) r := by
  obtain ⟨k1, h1⟩ := h
  obtain ⟨k2, h2⟩ := k
  refine ⟨k1 + k2, fun n hn => ?_⟩
  show (A n).bind (B n) = _
  rw [h1 n (by omega)]
  exact h2 n (by omega)
theorem Says.condT {A B : Nat → Option β} {c : Bool} (hc : c = true) (h : Says A r) : Says (fun n => cond c (A n) (B n)) r := by subst hc; exact h
theorem Says.condF {A B : Nat → Option β} {c : Bool} (hc : c = false) (h : Says B r) : Says (fun n => cond c (A n) (B n)) r := by subst hc; exact h
theorem Says.pos {A B : Nat → Option β} {p : Prop} [Decidable p] (hp : p) (h : Says A r) : Says (fun n => cond (decide p) (A n) (B n)) r := Says.condT (decide_eq_true hp) h
theorem Says.neg {A B : Nat → Option β} {p : Prop} [Decidable p] (hp : ¬ p) (h : Says B r) : Says (fun n => cond (decide p) (A n) (B n)) r := Says.condF (decide_eq_false hp) h
theorem Says.cases {A B : Nat → Option β} {p : Prop} [Decidable p] (h1 : p → Says A r) (h2 : ¬ p → Says B r) : Says (fun n => cond (decide p) (A n) (B n)) r := by
  by_cases h : p
  · exact Says.pos h (h1 h)
  · exact Says.neg h (h2 h)
theorem Says.casesB {A B : Nat → Option β} {c : Bool} (h1 : c = true → Says A r) (h2 : c = false → Says B r) : Says (fun n => cond c (A n) (B n)) r := by
  cases c
  · exact h2 rfl
  · exact h1 rfl
theorem Says.join {A B : Nat → Option β} (h : Says A r) (h' : Says B r) : Says (fun n => joinO (A n) (B n)) r := by
  obtain ⟨k, hk⟩ := h
  obtain ⟨k', hk'⟩ := h'
  refine ⟨k + k', fun n hn => ?_⟩
  show joinO (A n) (B n) = _
  unfold joinO
  rw [hk n (by omega), hk' n (by omega), if_pos rfl]
theorem Says.eq {f g : Nat → Option β} (h : Says f r) (e : ∀ n, g n = f n) : Says g r := by
  obtain ⟨k, hk⟩ := h
  exact ⟨k, fun n hn => by rw [e]; exact hk n hn⟩
theorem Says.unique {f : Nat → Option β} {r' : β} (h : Says f r) (h' : Says f r') : r = r' := by
  obtain ⟨k, hk⟩ := h
  obtain ⟨k', hk'⟩ := h'
  have := hk (k + k') (by omega)
  rw [hk' (k + k') (by omega)] at this
  exact (Option.some.inj this).symm
end
theorem wrap_id {x : Int} (h1 : -9223372036854775808 ≤ x) (h2 : x ≤ 9223372036854775807) : IntKind.i64.wrap x = x := by
  have e : IntKind.i64.wrap x = if (x % 18446744073709551616) ≥ 9223372036854775808 then x % 18446744073709551616 - 18446744073709551616 else x % 18446744073709551616 := by
    unfold IntKind.wrap
    simp [IntKind.signed, IntKind.bits]
  rw [e]
  split <;> omega
def bulk : (t : Ty) → t.den → Nat
  | .int _, _ => 0
  | .bool, _ => 0
  | .str, s => s.size
  | .sl t, l => l.length + (l.map (bulk t)).sum
  | .unit, _ => 0
  | .pair a b, x => bulk a x.1 + bulk b x.2
  | .st t, x => bulk t x
def szr (b : Nat) (s : Int) : Int := if (b : Int) ≤ s then s - b else -1
theorem Sz.done {s : Int} (h0 : 0 ≤ s) : Says (fun _ => some s) (szr 0 s) := by
  have : szr 0 s = s := by unfold szr; rw [if_pos (by simpa using h0)]; simp
  rw [this]; exact .now s
theorem Sz.zero {f : Nat → Option Int} {b : Nat} {s : Int} (h : Says f (szr b s)) : Says f (szr (0 + b) s) := by rw [Nat.zero_add]; exact h
theorem Sz.len {Y : Nat → Option Int} {k b : Nat} {s : Int} (hk : k ≤ maxLen) (h0 : 0 ≤ s) (h1 : s ≤ 1048576)
    (hX : ∀ s', 0 ≤ s' → s' ≤ 1048576 → IntKind.i64.wrap (s - k) = s' → Says Y (szr b s')) : Says (fun n => cond (decide (IntKind.i64.wrap (s - k) < 0)) (some (-1)) (Y n)) (szr (k + b) s) := by
  have hm : maxLen = 9223372036854775807 := rfl
  have e : IntKind.i64.wrap (s - k) = s - k := wrap_id (by omega) (by omega)
  by_cases h : (k : Int) ≤ s
  · refine Says.neg (by omega) ?_
    have := hX (s - k) (by omega) (by omega) e
    have e2 : szr (k + b) s = szr b (s - k) := by unfold szr; split <;> split <;> omega
    rw [e2]; exact this
  · have e2 : szr (k + b) s = -1 := by unfold szr; rw [if_neg (by omega)]
    rw [e2]
    exact Says.pos (by omega) (.now _)
theorem Sz.call {A : Nat → Option Int} {Y : Nat → Int → Option Int} {k b : Nat} {s : Int} (hA : Says A (szr k s)) (h0 : 0 ≤ s) (h1 : s ≤ 1048576)
    (hX : ∀ s', 0 ≤ s' → s' ≤ 1048576 → Says (fun n => Y n s') (szr b s')) : Says (fun n => (A n).bind fun r => cond (decide (r < 0)) (some (-1)) (Y n r)) (szr (k + b) s) := by
  refine Says.bind hA ?_
  by_cases h : (k : Int) ≤ s
  · have e : szr k s = s - k := if_pos h
    rw [e]
    refine Says.neg (by omega) ?_
    have e2 : szr (k + b) s = szr b (s - k) := by unfold szr; split <;> split <;> omega
    rw [e2]; exact hX _ (by omega) (by omega)
  · have e : szr k s = -1 := if_neg h
    have e2 : szr (k + b) s = -1 := by unfold szr; rw [if_neg (by omega)]
    rw [e2]
    exact Says.pos (by rw [e]; decide) (.now _)
theorem Sz.ret {A : Nat → Option Int} {k : Nat} {s : Int} (hA : Says A (szr k s)) : Says (fun n => (A n).bind fun r => cond (decide (r < 0)) (some (-1)) (some r)) (szr k s) := by
  refine Says.bind hA ?_
  by_cases h : szr k s < 0
  · refine Says.pos h ?_
    have : szr k s = -1 := by
      unfold szr at h ⊢
      split at h
      · omega
      · rename_i hh; rw [if_neg hh]
    rw [this]; exact .now _
  · exact Says.neg h (.now _)
theorem nth_at {t : Ty} {l : List t.den} {i : Nat} (h : i < l.length) : nth t l i = l[i] := by simp [nth, List.getD, h]
theorem sz_list {t : Ty} {F : Nat → List t.den → Int → Option Int} {L : Nat → List t.den → Int → Int → Option Int} {E : Nat → t.den → Int → Option Int}
    (hE : ∀ x s, good t x → 0 ≤ s → s ≤ 1048576 → Says (fun n => E n x s) (szr (bulk t x) s))
    (hF : ∀ n l s, F (n + 1) l s = cond (decide (IntKind.i64.wrap (s - (l.length : Int)) < 0)) (some (-1)) (L n l (IntKind.i64.wrap (s - (l.length : Int))) 0))
    (hL : ∀ n l s i, L (n + 1) l s i = cond (decide (i < (l.length : Int))) (cond (decide (0 ≤ i ∧ i < (l.length : Int))) ((E n (nth t l i.toNat) s).bind fun r => cond (decide (r < 0)) (some (-1)) (L n l r (IntKind.i64.wrap (i + 1)))) none) (some s))
    (l : List t.den) (s : Int) (g : good (.sl t) l) (h0 : 0 ≤ s) (h1 : s ≤ 1048576) : Says (fun n => F n l s) (szr (bulk (.sl t) l) s) := by
  have hm : maxLen = 9223372036854775807 := rfl
  obtain ⟨gl, ge⟩ := g
  have loop : ∀ (k i : Nat) (s : Int), i + k = l.length → 0 ≤ s → s ≤ 1048576 → Says (fun n => L n l s i) (szr (((l.drop i).map (bulk t)).sum) s) := by
    intro k
    induction k with
    | zero =>
      intro i s hi h0 h1
      refine Says.step (fun n => hL n l s i) (Says.neg (by omega) ?_)
      rw [List.drop_eq_nil_of_le (by omega)]
      exact Sz.done h0
    | succ k ih =>
      intro i s hi h0 h1
      refine Says.step (fun n => hL n l s i) (Says.pos (by omega) (Says.pos (by omega) ?_))
      rw [List.drop_eq_getElem_cons (by omega : i < l.length)]
      simp only [Int.toNat_natCast, List.map_cons, List.sum_cons]
      rw [nth_at (by omega : i < l.length)]
      have hi1 : IntKind.i64.wrap ((i : Int) + 1) = ((i + 1 : Nat) : Int) := by rw [wrap_id (by omega) (by omega)]; omega
      refine Sz.call (hE _ _ (ge _ (List.getElem_mem _)) h0 h1) h0 h1 fun s' a b => ?_
      rw [hi1]
      exact ih (i + 1) s' (by omega) a b
  refine Says.step (fun n => hF n l s) ?_
  show Says _ (szr (l.length + (l.map (bulk t)).sum) s)
  refine Sz.len gl h0 h1 fun s' a b e => ?_
  rw [e]
  exact loop l.length 0 s' (by omega) a b
theorem bulk_mem {t : Ty} {l : List t.den} {x : t.den} (h : x ∈ l) : bulk t x ≤ (l.map (bulk t)).sum := by
  induction l with
  | nil => cases h
  | cons y l ih =>
    simp only [List.map_cons, List.sum_cons]
    rcases List.mem_cons.1 h with rfl | h
    · omega
    · have := ih h; omega
theorem set_next {β : Type} {l : List β} {i k : Nat} (d : β) (hi : i + (k + 1) = l.length) : (l.take i ++ List.replicate (k + 1) d).set i (l[i]'(by omega)) = l.take (i + 1) ++ List.replicate k d := by
  have hl : (l.take i).length = i := by simp; omega
  rw [List.set_append_right _ _ (by omega), hl, Nat.sub_self, List.replicate_succ, List.set_cons_zero]
  rw [List.take_succ_eq_append_getElem (by omega), List.append_assoc]
  rfl
theorem to_list {t : Ty} {F : Nat → List t.den → Option (List t.den)} {L : Nat → List t.den → Nat → Int → List t.den → Option (List t.den)} {E : Nat → t.den → Option t.den} {d : t.den}
    (hE : ∀ x, bulk t x ≤ 1048576 → Says (fun n => E n x) x)
    (hF : ∀ n l, F (n + 1) l = cond (decide (0 ≤ (l.length : Int) ∧ (l.length : Int) ≤ (l.length : Int) ∧ (l.length : Int) < 4294967296)) (L n l (List.replicate (l.length : Int).toNat d).length 0 (List.replicate (l.length : Int).toNat d)) none)
    (hL : ∀ n l m i out, L (n + 1) l m i out = cond (decide (i < (l.length : Int))) (cond (decide (0 ≤ i ∧ i < (l.length : Int))) ((E n (nth t l i.toNat)).bind fun r => cond (decide (0 ≤ i ∧ i < (m : Int))) (L n l m (IntKind.i64.wrap (i + 1)) (out.set i.toNat r)) none) none) (some out))
    (l : List t.den) (g : bulk (.sl t) l ≤ 1048576) : Says (fun n => F n l) l := by
  have g : l.length + (l.map (bulk t)).sum ≤ 1048576 := g
  have loop : ∀ (k i : Nat), i + k = l.length → Says (fun n => L n l l.length i (l.take i ++ List.replicate k d)) l := by
    intro k
    induction k with
    | zero =>
      intro i hi
      refine Says.step (fun n => hL n l _ i _) (Says.neg (by omega) ?_)
      rw [List.take_of_length_le (by omega)]
      simp only [List.replicate_zero, List.append_nil]
      exact .now _
    | succ k ih =>
      intro i hi
      refine Says.step (fun n => hL n l _ i _) (Says.pos (by omega) (Says.pos (by omega) ?_))
      simp only [Int.toNat_natCast]
      rw [nth_at (by omega : i < l.length)]
      have hi1 : IntKind.i64.wrap ((i : Int) + 1) = ((i + 1 : Nat) : Int) := by rw [wrap_id (by omega) (by omega)]; omega
      refine Says.bind (hE _ (by have := bulk_mem (t := t) (List.getElem_mem (by omega : i < l.length)); omega)) (Says.pos (by omega) ?_)
      rw [hi1, set_next d hi]
      exact ih (i + 1) (by omega)
  refine Says.step (fun n => hF n l) (Says.pos (by omega) ?_)
  simp only [Int.toNat_natCast, List.length_replicate]
  exact loop l.length 0 (by omega)
theorem eq_list {t : Ty} {F : Nat → List t.den → List t.den → Option Bool} {L : Nat → List t.den → List t.den → Int → Option Bool} {E : Nat → t.den → t.den → Option Bool}
    (hE : ∀ x, bulk t x ≤ 9223372036854775806 → Says (fun n => E n x x) true)
    (hF : ∀ n a b, F (n + 1) a b = cond ((a.length : Int) != (b.length : Int)) (some false) (L n a b 0))
    (hL : ∀ n a b i, L (n + 1) a b i = cond (decide (i < (a.length : Int))) (cond (decide (0 ≤ i ∧ i < (a.length : Int))) (cond (decide (0 ≤ i ∧ i < (b.length : Int))) ((E n (nth t a i.toNat) (nth t b i.toNat)).bind fun r => cond (!r) (some false) (L n a b (IntKind.i64.wrap (i + 1)))) none) none) (some true))
    (l : List t.den) (g : bulk (.sl t) l ≤ 9223372036854775806) : Says (fun n => F n l l) true := by
  have g : l.length + (l.map (bulk t)).sum ≤ 9223372036854775806 := g
  have loop : ∀ (k i : Nat), i + k = l.length → Says (fun n => L n l l i) true := by
    intro k
    induction k with
    | zero =>
      intro i hi
      exact Says.step (fun n => hL n l _ i) (Says.neg (by omega) (.now _))
    | succ k ih =>
      intro i hi
      refine Says.step (fun n => hL n l _ i) (Says.pos (by omega) (Says.pos (by omega) (Says.pos (by omega) ?_)))
      simp only [Int.toNat_natCast]
      rw [nth_at (by omega : i < l.length)]
      have hi1 : IntKind.i64.wrap ((i : Int) + 1) = ((i + 1 : Nat) : Int) := by rw [wrap_id (by omega) (by omega)]; omega
      refine Says.bind (hE _ (by have := bulk_mem (t := t) (List.getElem_mem (by omega : i < l.length)); omega)) (Says.condF rfl ?_)
      rw [hi1]
      exact ih (i + 1) (by omega)
  exact Says.step (fun n => hF n l l) (Says.condF (by simp) (loop l.length 0 (by omega)))
theorem row_calls {P : Program} {E : Env} {call : (g : FuncId) → List AV → Hp → Option (Ret E g)} (hc : CallOk P E call) {f : FuncId} {fi : FI} (hf : E.fi f = some fi) {args : List AV} {vs : Array Value} {W : World} {x : Ret E f} (h : call f args [] = some x)
    (ha : All2 (VR2 (Lt W) W []) args vs.toList) (hg : GlobOk E (Old W) (Lt W) W) : Calls P f vs W fun e w' => ∃ v, e = .returned v ∧ RetOk (Old W) fi.own (rtsOf E f) (backOf E f) (Lt W) [] W w' x v :=
  hc f fi args [] x (Old W) (Lt W) [] W vs hf h ha (HR_nil fun _ _ h => h) (Old.base W) hg
theorem ret_true {own : Bool} {F : Fz} {W W' : World} {v : Value} (h : RetOk (Old W) own [.bool] [] F [] W W' true v) : v = .bool true ∧ RowKit.Below W.heap.size W W' := by
  obtain ⟨F', g', h1, h2, h3⟩ := h
  refine ⟨?_, ⟨h1.below.os, h1.below.tape, h1.below.output, h1.below.size, fun k hk => h1.below.block k hk⟩⟩
  cases own <;> exact h3
theorem szr_pos {b : Nat} {s : Int} (h : ¬ szr b s < 0) : (b : Int) ≤ s := by
  unfold szr at h
  split at h
  · assumption
  · omega
end Go.Proofs.YtmojilihllhadaaGreatDoor.Ev
/- More fuel says no less; answers without fuel. -/
namespace Go.Proofs.YtmojilihllhadaaGreatDoor.Ev
open Go
set_option linter.unusedVariables false
set_option linter.unusedSimpArgs false
section
variable {α β : Type} {E : Env} {H : Hp}
def Le (a b : Option α) : Prop := ∀ x, a = some x → b = some x
theorem Le.refl (a : Option α) : Le a a := fun _ h => h
theorem Le.none (b : Option α) : Le none b := fun _ h => by cases h
theorem Le.cond {c : Bool} {a b a' b' : Option α} (h : Le a a') (k : Le b b') : Le (cond c a b) (cond c a' b') := by cases c; exact k; exact h
theorem Le.bind {a a' : Option α} {f f' : α → Option β} (h : Le a a') (k : ∀ x, Le (f x) (f' x)) : Le (a.bind f) (a'.bind f') := by
  intro y hy
  obtain ⟨x, h1, h2⟩ := Option.bind_eq_some_iff.1 hy
  rw [h x h1]
  exact k x y h2
theorem Le.join {a b a' b' : Option α} (h : Le a a') (k : Le b b') : Le (joinO a b) (joinO a' b') := by
  intro x hx
  unfold joinO at hx ⊢
  split at hx
  · rename_i he
    rw [h x hx, k x (he ▸ hx), if_pos rfl]
  · cases hx
theorem Le.ofBind {a : Option (AV × Hp)} {K K' : AV → Hp → Option α} (hK : ∀ v H, Le (K v H) (K' v H)) : Le (a.bind fun p => K p.1 p.2) (a.bind fun p => K' p.1 p.2) := (Le.refl a).bind fun p => hK p.1 p.2
theorem nilK_le {x : AV} {eq : Bool} {K K' : AV → Option α} (hK : ∀ v, Le (K v) (K' v)) : Le (nilK x eq K) (nilK x eq K') := by
  unfold nilK
  split
  · exact ((hK _).join (hK _)).cond (hK _)
  · exact Le.none _
theorem opK_le {o : Op} {ρ : Operand → AV} {K K' : AV → Hp → Option α} (hK : ∀ v H, Le (K v H) (K' v H)) : Le (opK E o ρ H K) (opK E o ρ H K') := by
  cases hn : nilOp o with
  | false =>
    have h1 := opK_nat (E := E) (H := H) hn (ρ := ρ) (K := fun v H => some (v, H)) (f := fun p => K p.1 p.2)
    have h2 := opK_nat (E := E) (H := H) hn (ρ := ρ) (K := fun v H => some (v, H)) (f := fun p => K' p.1 p.2)
    simp only [Option.bind_some] at h1 h2
    rw [← h1, ← h2]
    exact Le.ofBind hK
  | true =>
    unfold nilOp at hn
    split at hn
    · simp only [opK]
      split
      · exact nilK_le fun v => hK v H
      · exact nilK_le fun v => hK v H
      · exact Le.none _
    · cases hn
theorem builtinK_le {b : Builtin} {as : Array TypeId} {vs : List AV} {K K' : AV → Hp → Option α} (hK : ∀ v H, Le (K v H) (K' v H)) : Le (builtinK E b as vs H K) (builtinK E b as vs H K') := by
  have h1 := builtinK_nat (E := E) (H := H) (b := b) (as := as) (vs := vs) (K := fun v H => some (v, H)) (f := fun p => K p.1 p.2)
  have h2 := builtinK_nat (E := E) (H := H) (b := b) (as := as) (vs := vs) (K := fun v H => some (v, H)) (f := fun p => K' p.1 p.2)
  simp only [Option.bind_some] at h1 h2
  rw [← h1, ← h2]
  exact Le.ofBind hK
theorem extK_le {x : XT} {vs : List AV} {K K' : AV → Hp → Option α} (hK : ∀ v H, Le (K v H) (K' v H)) : Le (extK x vs H K) (extK x vs H K') := by
  have h1 := extK_nat (H := H) (x := x) (args := vs) (K := fun v H => some (v, H)) (f := fun p => K p.1 p.2)
  have h2 := extK_nat (H := H) (x := x) (args := vs) (K := fun v H => some (v, H)) (f := fun p => K' p.1 p.2)
  simp only [Option.bind_some] at h1 h2
  rw [← h1, ← h2]
  exact Le.ofBind hK
theorem guardS_le {ops : Array Oper} {ts : List AV} {o : Oper} {yes no yes' no' : List AV → Option α} (hy : ∀ ts, Le (yes ts) (yes' ts)) (hn : ∀ ts, Le (no ts) (no' ts)) : Le (guardS ops ts o yes no) (guardS ops ts o yes' no') := by
  unfold guardS
  split
  · exact hy _
  · split
    · split
      · exact (hy _).cond (hn _)
      · exact hn _
      · exact Le.none _
    · exact Le.none _
abbrev CallT (E : Env) := (g : FuncId) → List AV → Hp → Option (Ret E g)
def CallLe {E : Env} (c c' : CallT E) : Prop := ∀ g as H, Le (c g as H) (c' g as H)
def InlLe (i i' : FI → List AV → Hp → Fin α → Option α) : Prop := ∀ gi as H (K K' : Fin α), (∀ v H, Le (K v H) (K' v H)) → Le (i gi as H K) (i' gi as H K')
theorem opsK_le {call call' : CallT E} (hc : CallLe call call') {inl inl' : FI → List AV → Hp → Fin α → Option α} (hi : InlLe inl inl') {ops : Array Oper} :
    ∀ (l : List Nat) (ts : List AV) (H : Hp) (K K' : List AV → Hp → Option α), (∀ ts H, Le (K ts H) (K' ts H)) → Le (opsK E call inl ops l ts H K) (opsK E call' inl' ops l ts H K')
  | [], ts, H, K, K', hK => hK ts H
  | i :: r, ts, H, K, K', hK => by
    simp only [opsK]
    split
    · exact opsK_le hc hi r ts H K K' hK
    · rename_i o ho
      refine guardS_le (fun ts => ?_) fun ts => opsK_le hc hi r _ H K K' hK
      split
      · rename_i c hcc
        split
        · exact builtinK_le fun v H => opsK_le hc hi r _ H K K' hK
        · split
          · split
            · split
              · exact hi _ _ _ _ _ fun v H => opsK_le hc hi r _ H K K' hK
              · split
                · split
                  · exact (hc _ _ _).bind fun x => opsK_le hc hi r _ _ K K' hK
                  · exact Le.none _
                · split
                  · exact (hc _ _ _).bind fun x => opsK_le hc hi r _ _ K K' hK
                  · exact Le.none _
            · split
              · exact extK_le fun v H => opsK_le hc hi r _ H K K' hK
              · exact Le.none _
          · exact Le.none _
        · exact Le.none _
      · exact opK_le fun v H => opsK_le hc hi r _ H K K' hK
abbrev GotoT (α : Type) := Option (List Item → List AV → Hp → Option α)
def GotoLe (g g' : GotoT α) : Prop := (g = none ∧ g' = none) ∨ ∃ f f', g = some f ∧ g' = some f' ∧ ∀ todo ts H, Le (f todo ts H) (f' todo ts H)
theorem inlOf_le {d : Bool} {b : Option Code} {K K' : Code → Option α} (h : ∀ c, Le (K c) (K' c)) : Le (inlOf d b K) (inlOf d b K') := by
  unfold inlOf
  split
  · exact h _
  · exact Le.none _
theorem goCut_le {f f' : List Item → List AV → Hp → Option α} (h : ∀ todo ts H, Le (f todo ts H) (f' todo ts H)) {m : Nat} {live : List Nat} {as : List (Nat × Option Nat × Act1)} {todo : List Item} {ts : List AV} : Le (goCut f m live as todo ts H) (goCut f' m live as todo ts H) := by
  unfold goCut
  split
  · exact h _ _ _
  · exact Le.none _
theorem regionK_le {call call' : CallT E} (hc : CallLe call call') {inl inl' : FI → List AV → Hp → Fin α → Option α} (hi : InlLe inl inl') {ops : Array Oper} {ts : List AV} {H : Hp} {draw : Bool} {K K' : List AV → Hp → Option α} (hK : ∀ ts H, Le (K ts H) (K' ts H)) :
    Le (regionK E call inl ops ts H draw K) (regionK E call' inl' ops ts H draw K') := by
  cases draw with
  | false => exact opsK_le hc hi _ _ _ _ _ hK
  | true =>
    simp only [regionK]
    split
    · exact opsK_le (E := noOwn E) (call := call) (call' := call') hc hi _ _ _ _ _ hK
    · exact Le.none _
theorem steps_le {call call' : CallT E} (hc : CallLe call call') : ∀ (n : Nat) (goto goto' : GotoT α) (fi : FI) (todo : List Item) (ts : List AV) (H : Hp) (fin fin' : Fin α), GotoLe goto goto' → (∀ v H, Le (fin v H) (fin' v H)) →
    Le (steps E call n goto fi todo ts H fin) (steps E call' n goto' fi todo ts H fin')
  | 0, _, _, _, _, _, _, _, _, _, _ => Le.none _
  | n + 1, goto, goto', fi, todo, ts, H, fin, fin', hg, hf => by
    have hfin : ∀ ts H, Le (finR E fi.fn ts H fin) (finR E fi.fn ts H fin') := fun ts H => by
      unfold finR
      split
      · exact hf _ _
      · exact Le.none _
    have ih := fun todo ts H => steps_le hc n goto goto' fi todo ts H fin fin' hg hf
    have hI : ∀ d : Bool, InlLe (α := α) (fun gi args H fin => inlOf d gi.fn.body fun c => steps E call n none gi [.code c] (entry gi args) H fin) (fun gi args H fin => inlOf d gi.fn.body fun c => steps E call' n none gi [.code c] (entry gi args) H fin) :=
      fun d gi as H K K' hK => inlOf_le fun c => steps_le hc n none none gi _ _ _ K K' (.inl ⟨rfl, rfl⟩) hK
    simp only [steps]
    split
    · exact hfin _ _
    · exact hfin _ _
    · exact ih _ _ _
    · exact ih _ _ _
    · exact ih _ _ _
    · exact ih _ _ _
    · split
      · exact (ih _ _ _).cond (ih _ _ _)
      · exact Le.none _
    · exact ih _ _ _
    · exact ih _ _ _
    · exact ih _ _ _
    · split
      · exact ih _ _ _
      · exact Le.none _
    · rename_i id ops draw k
      have hops : Le (regionK E call (fun gi args H fin => inlOf false gi.fn.body fun c => steps E call n none gi [.code c] (entry gi args) H fin) ops ts H draw fun ts H => steps E call n goto fi k ts H fin)
          (regionK E call' (fun gi args H fin => inlOf false gi.fn.body fun c => steps E call' n none gi [.code c] (entry gi args) H fin) ops ts H draw fun ts H => steps E call' n goto' fi k ts H fin') := regionK_le hc (hI false) fun ts H => ih _ _ _
      rcases hg with ⟨rfl, rfl⟩ | ⟨f, f', rfl, rfl, hff⟩
      · exact hops
      · cases hl : fi.cuts.lookup id with
        | none => exact hops
        | some p => exact goCut_le hff
    · exact Le.none _
theorem ev_le : ∀ (n : Nat) (f : FuncId) (j : Job), Le (ev E n f j) (ev E (n + 1) f j)
  | 0, f, j => by
    intro x h
    cases j <;> simp [ev] at h
  | n + 1, f, .call args Hc => by
    have hc : CallLe (E := E) (fun g as H => ev E n g (.call as H)) (fun g as H => ev E (n + 1) g (.call as H)) := fun g as H => ev_le n g _
    rw [ev, ev]
    split
    · split
      · split
        · exact steps_le hc _ _ _ _ _ _ _ _ _ (.inr ⟨_, _, rfl, rfl, fun todo ts H => ev_le n f _⟩) fun _ _ => Le.refl _
        · exact Le.none _
      · exact Le.none _
    · exact Le.none _
  | n + 1, f, .cut todo ts H => by
    have hc : CallLe (E := E) (fun g as H => ev E n g (.call as H)) (fun g as H => ev E (n + 1) g (.call as H)) := fun g as H => ev_le n g _
    have hI : ∀ d : Bool, InlLe (α := Ret E f) (fun gi args H fin => inlOf d gi.fn.body fun c => steps E (fun g as H => ev E n g (.call as H)) STEPS none gi [.code c] (entry gi args) H fin) (fun gi args H fin => inlOf d gi.fn.body fun c => steps E (fun g as H => ev E (n + 1) g (.call as H)) STEPS none gi [.code c] (entry gi args) H fin) :=
      fun d gi as H K K' hK => inlOf_le fun c => steps_le hc _ none none gi _ _ _ K K' (.inl ⟨rfl, rfl⟩) hK
    rw [ev, ev]
    split
    · split
      · exact regionK_le hc (hI _) fun ts H => steps_le hc _ _ _ _ _ _ _ _ _ (.inr ⟨_, _, rfl, rfl, fun todo ts H => ev_le n f _⟩) fun _ _ => Le.refl _
      · exact Le.none _
    · exact Le.none _
/-! #### truths told as propositions -/
def BLt (a b : ByteArray) : Prop := Op.bytesLess a.data.toList b.data.toList = true
instance (a b : ByteArray) : Decidable (BLt a b) := inferInstanceAs (Decidable (_ = true))
theorem iD {p : Prop} [Decidable p] : decide p = true ↔ p := decide_eq_true_iff
theorem iR {b : Bool} : b = true ↔ b = true := Iff.rfl
theorem iT {b : Bool} {p : Prop} (h : b = true ↔ p) : (b == true) = true ↔ p := by rw [← h]; simp
theorem iF {b : Bool} {p : Prop} (h : b = true ↔ p) : (b == false) = true ↔ ¬p := by rw [← h]; simp
theorem iN {b : Bool} {p : Prop} (h : b = true ↔ p) : (!b) = true ↔ ¬p := by rw [← h]; simp
theorem iFn {b : Bool} {p : Prop} (h : b = true ↔ ¬p) : (b == false) = true ↔ p := by
  have : p ↔ ¬ b = true := by rw [h]; exact Classical.not_not.symm
  rw [this]; simp
theorem iO {a b : Bool} {p q : Prop} (h : a = true ↔ p) (k : b = true ↔ q) : (a || b) = true ↔ (p ∨ q) := by rw [← h, ← k]; simp
theorem iA {a b : Bool} {p q : Prop} (h : a = true ↔ p) (k : b = true ↔ q) : (a && b) = true ↔ (p ∧ q) := by rw [← h, ← k]; simp
theorem iE {α : Type} [BEq α] [LawfulBEq α] {x y : α} : (x == y) = true ↔ x = y := beq_iff_eq
theorem iNe {α : Type} [BEq α] [LawfulBEq α] {x y : α} : (x != y) = true ↔ ¬ x = y := bne_iff_ne
theorem ba_ext {a b : ByteArray} (h : a.data.toList = b.data.toList) : a = b := by rw [← Go.Lib.mk_data a, ← Go.Lib.mk_data b, h]
theorem iS {a b : ByteArray} : (a.toList == b.toList) = true ↔ a = b := by
  rw [beq_iff_eq, Go.Lib.toList_data, Go.Lib.toList_data]
  exact ⟨ba_ext, fun h => by rw [h]⟩
theorem iL {a b : ByteArray} : Op.bytesLess a.toList b.toList = true ↔ BLt a b := by rw [Go.Lib.toList_data, Go.Lib.toList_data]; exact Iff.rfl
/-! #### without fuel -/
open Classical in
noncomputable def lim (f : Nat → Option β) : Option β := if h : ∃ r, Says f r then some h.choose else none
theorem lim_says {f : Nat → Option β} {r : β} (h : Says f r) : lim f = some r := by
  have hx : ∃ r, Says f r := ⟨r, h⟩
  unfold lim
  rw [dif_pos hx, h.unique hx.choose_spec]
theorem says_lim {f : Nat → Option β} {r : β} (h : lim f = some r) : Says f r := by
  unfold lim at h
  split at h
  · rename_i hx
    have := hx.choose_spec
    rwa [Option.some.inj h] at this
  · cases h
def Ups (f : Nat → Option β) : Prop := ∀ n, Le (f n) (f (n + 1))
theorem Ups.le {f : Nat → Option β} (h : Ups f) {n m : Nat} (hnm : n ≤ m) : Le (f n) (f m) := by
  induction m with
  | zero =>
    obtain rfl : n = 0 := by omega
    exact Le.refl _
  | succ m ih =>
    rcases Nat.eq_or_lt_of_le hnm with rfl | hlt
    · exact Le.refl _
    · exact fun x hx => h m x (ih (by omega) x hx)
theorem Ups.says {f : Nat → Option β} (h : Ups f) {n : Nat} {r : β} (hr : f n = some r) : Says f r := ⟨n, fun m hm => h.le hm r hr⟩
theorem up_ev (f : FuncId) (j : Job) : Ups (fun n => ev E n f j) := fun n => ev_le n f j
theorem lim_const (r : Option β) : lim (fun _ => r) = r := by
  cases r with
  | some r => exact lim_says (.now r)
  | none =>
    unfold lim
    rw [dif_neg]
    rintro ⟨r, k, hk⟩
    have := hk k (Nat.le_refl _)
    cases this
theorem lim_step {f g : Nat → Option β} {r : Option β} (hg : lim g = r) (h : ∀ n, f (n + 1) = g n) : lim f = r := by
  subst hg
  cases hl : lim g with
  | some r => exact lim_says (Says.step h (says_lim hl))
  | none =>
    cases hf : lim f with
    | none => rfl
    | some r =>
      obtain ⟨k, hk⟩ := says_lim hf
      have : Says g r := ⟨k, fun n hn => by rw [← h]; exact hk (n + 1) (by omega)⟩
      rw [lim_says this] at hl
      cases hl
theorem lim_cond {A B : Nat → Option β} {a b : Option β} {c : Bool} (hA : lim A = a) (hB : lim B = b) : lim (fun n => cond c (A n) (B n)) = if c = true then a else b := by
  subst hA hB
  cases c <;> simp only [cond_true, cond_false, if_true, Bool.false_eq_true, if_false]
theorem lim_ite {A B : Nat → Option β} {a b : Option β} {p : Prop} [Decidable p] (hA : lim A = a) (hB : lim B = b) : lim (fun n => cond (decide p) (A n) (B n)) = if p then a else b := by
  subst hA hB
  by_cases h : p
  · simp only [decide_eq_true h, cond_true, if_pos h]
  · simp only [decide_eq_false h, cond_false, if_neg h]
theorem lim_bind {A : Nat → Option α} {B : Nat → α → Option β} {b : α → Option β} (u : Ups A) (hB : ∀ x, lim (fun n => B n x) = b x) : lim (fun n => (A n).bind (B n)) = (lim A).bind b := by
  cases hl : lim A with
  | some a =>
    simp only [Option.bind_some]
    rw [← hB a]
    obtain ⟨k, hk⟩ := says_lim hl
    cases hb : lim (fun n => B n a) with
    | some r => exact lim_says (Says.bind (says_lim hl) (says_lim hb))
    | none =>
      cases hf : lim (fun n => (A n).bind (B n)) with
      | none => rfl
      | some r =>
        obtain ⟨m, hm⟩ := says_lim hf
        have : Says (fun n => B n a) r := ⟨k + m, fun n hn => by
          have := hm n (by omega)
          simp only [hk n (by omega), Option.bind_some] at this
          exact this⟩
        rw [lim_says this] at hb
        cases hb
  | none =>
    have hn : ∀ n, A n = none := fun n => by
      cases ha : A n with
      | none => rfl
      | some x => rw [lim_says (u.says ha)] at hl; cases hl
    simp only [hn, Option.bind_none]
    exact lim_const none
def Lim (r : Option β) (f : Nat → Option β) : Prop := lim f = r
theorem Lim.const {r : Option β} : Lim r (fun _ => r) := lim_const r
theorem Lim.call {A : Nat → Option β} : Lim (lim A) A := rfl
theorem Lim.iff {A B : Nat → Option β} {a b : Option β} {p : Prop} [Decidable p] (hA : Lim a A) (hB : Lim b B) : Lim (if p then a else b) (fun n => cond (decide p) (A n) (B n)) := lim_ite hA hB
theorem Lim.bind {A : Nat → Option α} {a : Option α} {B : Nat → α → Option β} {b : α → Option β} (hA : Lim a A) (u : Ups A) (hB : ∀ x, Lim (b x) (fun n => B n x)) : Lim (a.bind b) (fun n => (A n).bind (B n)) := by
  cases hA
  exact lim_bind u hB
theorem Lim.of {A B : Nat → Option β} {a b : Option β} {c : Bool} {p : Prop} [Decidable p] (h : c = true ↔ p) (hA : Lim a A) (hB : Lim b B) : Lim (if p then a else b) (fun n => cond c (A n) (B n)) := by
  cases hA; cases hB
  have := lim_cond (c := c) (A := A) (B := B) rfl rfl
  unfold Lim
  rw [this]
  by_cases hp : p
  · rw [if_pos hp, if_pos (h.2 hp)]
  · rw [if_neg hp, if_neg fun hc => hp (h.1 hc)]
theorem Lim.no {A B : Nat → Option β} {a b : Option β} {c : Bool} {p : Prop} [Decidable p] (h : c = true ↔ ¬p) (hA : Lim a A) (hB : Lim b B) : Lim (if p then b else a) (fun n => cond c (A n) (B n)) := by
  cases hA; cases hB
  have := lim_cond (c := c) (A := A) (B := B) rfl rfl
  unfold Lim
  rw [this]
  by_cases hp : p
  · rw [if_pos hp, if_neg fun hc => h.1 hc hp]
  · rw [if_neg hp, if_pos (h.2 hp)]
theorem Lim.b {A : Nat → Option α} {B : Nat → α → Option β} {b : α → Option β} (u : Ups A) (hB : ∀ x, Lim (b x) (fun n => B n x)) : Lim ((lim A).bind b) (fun n => (A n).bind (B n)) := .bind .call u hB
theorem ue {f : FuncId} {j : Job} : Ups (fun n => ev E n f j) := up_ev f j
theorem Lim.step {f g : Nat → Option β} {r : Option β} (hg : Lim r g) (h : ∀ n, f (n + 1) = g n) : lim f = r := lim_step hg h
end
end Go.Proofs.YtmojilihllhadaaGreatDoor.Ev
