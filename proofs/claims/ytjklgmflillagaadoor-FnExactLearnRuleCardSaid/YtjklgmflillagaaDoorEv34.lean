/- From a reading of the form's (DataW.trod) to the evaluator's plain data. -/
import Derived.Test.YtjklgmflillagaaDoorEv33
import Derived.Deep.Slices
import Derived.Lib.SmallJoins
import Derived.WideShapes
namespace Go.Proofs.YtjklgmflillagaaDoor.Ev
open Go Go.RowKit Go.Deep Go.ChangeShapes Go.WideShapes
set_option linter.unusedVariables false
set_option linter.unusedSimpArgs false

/-- what is known of data that came in -/
def good : (t : Ty) → t.den → Prop
  | .int k, n => (Lit.int k n).wf = true
  | .bool, _ => True
  | .str, s => s.size ≤ maxLen
  | .sl t, l => l.length ≤ maxLen ∧ ∀ x ∈ l, good t x
  | .unit, _ => True
  | .pair a b, x => good a x.1 ∧ good b x.2
  | .st t, x => good t x

def Lt (w : World) : Fz := fun b _ => b < w.heap.size

def Opens (P : Program) (t : Nat) (τ : Ty) : Prop :=
  ∀ (H : Type) (enc : TypeId × Value → H) (w : World) (base fuel : Nat) (spare : Nat → Bool) (held : Bool) (cs : List Value) (x : DataW H × List MemPlace),
    DataW.trod enc P w base spare held fuel t cs = some x → ∃ a : τ.den, good τ a ∧ CR (Lt w) w τ a cs

theorem list_of {α : Type} {n : Nat} {p : Nat → α → Prop} (h : ∀ i, i < n → ∃ x, p i x) : ∃ xs : List α, xs.length = n ∧ ∀ i x, xs[i]? = some x → p i x := by
  induction n with
  | zero => exact ⟨[], rfl, fun i x hx => by simp at hx⟩
  | succ n ih =>
    obtain ⟨xs, hl, hp⟩ := ih (fun i hi => h i (by omega))
    obtain ⟨y, hy⟩ := h n (by omega)
    refine ⟨xs ++ [y], by simp [hl], fun i x hx => ?_⟩
    rcases Nat.lt_or_ge i n with hi | hi
    · rw [List.getElem?_append_left (by omega)] at hx
      exact hp i x hx
    · have hi' : i < (xs ++ [y]).length := (List.getElem?_eq_some_iff.1 hx).1
      have : i = n := by simp [hl] at hi'; omega
      subst this
      rw [List.getElem?_append_right (by omega)] at hx
      simp [hl] at hx
      rw [← hx]
      exact hy

theorem cell_spot {w : World} {a : Addr} {u : Value} (h : w.cell? a = some u) : a.spot = none ∧ a.block < w.heap.size := by
  unfold World.cell? at h
  split at h
  · rename_i hb
    split at h
    · cases h
    · rename_i hs
      refine ⟨by cases hh : a.spot with
        | none => rfl
        | some s => rw [hh] at hs; simp at hs, (Array.getElem?_eq_some_iff.1 hb).1⟩
  · cases h

theorem opens_sl {P : Program} {t e : Nat} {τ : Ty} (he : Opens P e τ) (ht : P.underlying t = some (.slice e)) (hc : P.cellsOf e = τ.size) (hz : 0 < τ.size) : Opens P t (.sl τ) := by
  intro H enc w base fuel spare held cs x h
  rcases open_slice ht h with ⟨rfl, _⟩ | ⟨a, len, cap, m, n, D, Pl, rfl, _, hl, hm, hmm, _, hx⟩
  · exact ⟨[], ⟨Nat.zero_le _, by simp⟩, none, 0, rfl, Nat.le_refl _, fun i x hx => by simp at hx⟩
  · have hlm : len ≤ m := by rw [hmm]; split <;> omega
    have one : ∀ i, i < len → ∃ a' : τ.den, good τ a' ∧ ∃ cs', cs'.length = τ.size ∧ CR (Lt w) w τ a' cs' ∧ ∀ j u, cs'[j]? = some u → w.cell? (a.add (i * τ.size + j)) = some u := by
      intro i hi
      obtain ⟨cs', h1, h2⟩ := hx i (by omega)
      obtain ⟨a', ga, ka⟩ := he _ _ _ _ _ _ _ _ _ h2
      refine ⟨a', ga, cs', CR_len _ _ _ ka, ka, fun j u hj => ?_⟩
      rw [hc] at h1
      obtain ⟨_, hlen, hcell⟩ := World.cells?_some h1
      have hj' : j < τ.size := by
        have := (List.getElem?_eq_some_iff.1 hj).1
        rw [CR_len _ _ _ ka] at this
        exact this
      have := hcell j hj'
      rw [Deep.add_add] at this
      rw [this, hj]
    obtain ⟨xs, hxl, hp⟩ := list_of one
    have hadd : ∀ n, (a.add n).block = a.block := fun n => by unfold Addr.add; split <;> rfl
    have hspot : xs ≠ [] → a.spot = none := by
      intro hne
      cases hxs : xs with
      | nil => exact absurd hxs hne
      | cons y ys =>
        obtain ⟨_, cs', h1, _, h3⟩ := hp 0 y (by rw [hxs]; rfl)
        obtain ⟨u, hu⟩ : ∃ u, cs'[0]? = some u := ⟨cs'[0]'(by omega), by simp⟩
        have := (cell_spot (h3 0 u hu)).1
        unfold Addr.add at this
        split at this
        · exact this
        · rename_i hne; exact absurd (by simp) hne
    refine ⟨xs, ⟨by rw [hxl]; omega, fun x hx' => ?_⟩, some a, cap, by rw [hxl], by rw [hxl]; exact hl, fun i x hi => ?_⟩
    · obtain ⟨i, hi⟩ := List.getElem?_of_mem hx'
      exact (hp i x hi).1
    · obtain ⟨_, cs', h1, h2, h3⟩ := hp i x hi
      have hs := hspot (by rintro rfl; simp at hi)
      refine ⟨a, rfl, hs, cs', h2, h1, fun j u hj => ?_⟩
      have hcell := h3 j u hj
      have hb := (cell_spot hcell).2
      rw [hadd] at hb
      rw [Addr.add_plain a hs] at hcell
      exact ⟨hb, hcell⟩

/-- The fields from offset o on. -/
def OpensF (P : Program) (o : Nat) (fs : List Field) (τ : Ty) : Prop :=
  ∀ (H : Type) (enc : TypeId × Value → H) (w : World) (base fuel : Nat) (spare : Nat → Bool) (held : Bool) (cs : List Value),
    cs.length = o + τ.size → (∀ f ∈ fs, ∃ x, DataW.trod enc P w base spare held fuel f.type ((cs.drop f.offset).take (P.cellsOf f.type)) = some x) → ∃ a : τ.den, good τ a ∧ CR (Lt w) w τ a (cs.drop o)

theorem opensF_nil {P : Program} {o : Nat} : OpensF P o [] .unit := by
  intro H enc w base fuel spare held cs hl hf
  exact ⟨(), trivial, by rw [List.drop_eq_nil_of_le (by rw [hl]; exact Nat.le_refl _)]; rfl⟩
theorem opensF_cons {P : Program} {o : Nat} {f : Field} {fs : List Field} {τ τ' : Ty} (h : Opens P f.type τ) (ho : f.offset = o) (hc : P.cellsOf f.type = τ.size)
    (ht : OpensF P (o + τ.size) fs τ') : OpensF P o (f :: fs) (.pair τ τ') := by
  intro H enc w base fuel spare held cs hl hf
  have hl' : cs.length = o + τ.size + τ'.size := by rw [hl]; show o + (τ.size + τ'.size) = _; omega
  obtain ⟨x, hx⟩ := hf f (by simp)
  rw [ho, hc] at hx
  obtain ⟨a, ga, ka⟩ := h _ _ _ _ _ _ _ _ _ hx
  obtain ⟨b, gb, kb⟩ := ht _ _ _ _ _ _ _ _ hl' (fun f' hf' => hf f' (List.mem_cons_of_mem _ hf'))
  refine ⟨(a, b), ⟨ga, gb⟩, (cs.drop o).take τ.size, cs.drop (o + τ.size), ?_, ka, kb⟩
  rw [← List.drop_drop, List.take_append_drop]
theorem opens_st {P : Program} {t : Nat} {fs : Array Field} {τ : Ty} (ht : P.underlying t = some (.struct fs)) (hc : P.cellsOf t = τ.size) (h : OpensF P 0 fs.toList τ) : Opens P t (.st τ) := by
  intro H enc w base fuel spare held cs x hx
  obtain ⟨xs, n, _, _, hl, hlen, hf⟩ := DataW.trod_struct ht hx
  have := h H enc w base n spare held cs (by rw [hl, hc]; omega) (fun f hf' => by
    obtain ⟨i, hi⟩ := List.getElem?_of_mem hf'
    have hi' : fs[i]? = some f := by rw [← Array.getElem?_toList]; exact hi
    have := hf i f hi'
    have hlt : i < xs.length := by
      have := (Array.getElem?_eq_some_iff.1 hi').1
      omega
    rw [List.getElem?_eq_getElem hlt] at this
    exact ⟨_, this⟩)
  obtain ⟨a, ga, ka⟩ := this
  exact ⟨a, ga, show CR (Lt w) w τ a cs by simpa using ka⟩

/-- the kernel reads the type off -/
def opF (P : Program) (rec : TypeId → Option Ty) : Nat → List Field → Option Ty
  | _, [] => some .unit
  | o, f :: fs => match rec f.type with
    | some τ => match Nat.beq f.offset o && Nat.beq (P.cellsOf f.type) τ.size, opF P rec (o + τ.size) fs with
      | true, some τ' => some (.pair τ τ')
      | _, _ => none
    | none => none
def opTy (P : Program) : Nat → TypeId → Option Ty
  | 0, _ => none
  | n + 1, t => match P.underlying t with
    | some (.int k) => some (.int k)
    | some .bool => some .bool
    | some .string => some .str
    | some (.slice e) => match opTy P n e with
      | some τ => match Nat.beq (P.cellsOf e) τ.size && Nat.blt 0 τ.size with
        | true => some (.sl τ)
        | false => none
      | none => none
    | some (.struct fs) => match opF P (opTy P n) 0 fs.toList with
      | some τ => match Nat.beq (P.cellsOf t) τ.size with
        | true => some (.st τ)
        | false => none
      | none => none
    | _ => none
theorem opF_ok {P : Program} {rec : TypeId → Option Ty} (hr : ∀ t τ, rec t = some τ → Opens P t τ) : ∀ (fs : List Field) (o : Nat) (τ : Ty), opF P rec o fs = some τ → OpensF P o fs τ
  | [], o, τ, h => by cases h; exact opensF_nil
  | f :: fs, o, τ, h => by
    simp only [opF] at h
    split at h
    · rename_i τ1 h1
      split at h
      · rename_i τ2 hb h2
        cases h
        simp only [Bool.and_eq_true] at hb
        exact opensF_cons (hr _ _ h1) (Nat.eq_of_beq_eq_true hb.1) (Nat.eq_of_beq_eq_true hb.2) (opF_ok hr fs _ _ h2)
      · cases h
    · cases h
theorem opTy_ok {P : Program} : ∀ (n : Nat) (t : TypeId) (τ : Ty), opTy P n t = some τ → Opens P t τ
  | 0, _, _, h => by cases h
  | n + 1, t, τ, h => by
    simp only [opTy] at h
    split at h
    · rename_i k hu
      cases h
      intro H enc w base fuel spare held cs x h
      obtain ⟨n, e, _, hw⟩ := DataW.trod_int hu h
      exact ⟨n, hw, e⟩
    · rename_i hu
      cases h
      intro H enc w base fuel spare held cs x h
      obtain ⟨b, e, _⟩ := DataW.trod_bool hu h
      exact ⟨b, trivial, e⟩
    · rename_i hu
      cases h
      intro H enc w base fuel spare held cs x h
      obtain ⟨s, e, _, hw⟩ := DataW.trod_string hu h
      exact ⟨s, hw, e⟩
    · rename_i e hu
      split at h
      · rename_i τ1 h1
        split at h
        · rename_i hb
          cases h
          simp only [Bool.and_eq_true] at hb
          exact opens_sl (opTy_ok n _ _ h1) hu (Nat.eq_of_beq_eq_true hb.1) (by simpa [Nat.blt_eq] using hb.2)
        · cases h
      · cases h
    · rename_i fs hu
      split at h
      · rename_i τ1 h1
        split at h
        · rename_i hb
          cases h
          exact opens_st hu (Nat.eq_of_beq_eq_true hb) (opF_ok (opTy_ok n) _ _ _ h1)
        · cases h
      · cases h
    · cases h

/-! ### An argument -/
/-- the evaluator's value of an argument -/
def arg (τ : Ty) (x : τ.den) : AV := toAV τ x

theorem arg_ok {P : Program} {t : TypeId} {τ : Ty} (ho : opTy P 12 t = some τ) {H : Type} {enc : TypeId × Value → H} {w : World} {r : Reach} {base b0 : Nat} {spare : Nat → Bool} {held : Bool} {v : Value} {x : DataW H} {ps : List MemPlace}
    (hv : Value.okWide P w r b0 t v) (h : DataW.Trod enc P w base spare held t v x ps) : ∃ a : τ.den, good τ a ∧ VR2 (Lt w) w [] (arg τ a) v := by
  obtain ⟨fuel, hf⟩ := h
  obtain ⟨a, ga, ka⟩ := opTy_ok 12 t τ ho _ _ _ _ _ _ _ _ _ hf
  refine ⟨a, ga, ?_⟩
  simp only [opTy] at ho
  split at ho
  · rename_i k hu
    cases ho
    obtain ⟨n, rfl⟩ := okWide_int hu hv
    have : n = a := by simpa [CR, Value.cells] using ka
    subst this
    rfl
  · rename_i hu
    cases ho
    obtain ⟨n, rfl⟩ := okWide_bool hu hv
    have : n = a := by simpa [CR, Value.cells] using ka
    subst this
    rfl
  · rename_i hu
    cases ho
    obtain ⟨n, rfl⟩ := okWide_string hu hv
    have : n = a := by simpa [CR, Value.cells] using ka
    subst this
    rfl
  · rename_i e hu
    split at ho
    · rename_i τ1 _
      split at ho
      · cases ho
        obtain ⟨a0, len, cap, rfl⟩ := okWide_slice hu hv
        exact ka
      · cases ho
    · cases ho
  · rename_i fs hu
    split at ho
    · rename_i τ1 _
      split at ho
      · cases ho
        obtain ⟨cs, rfl, _⟩ := okWide_struct hu hv
        exact ⟨cs, rfl, explode_ok τ1 a _ ka⟩
      · cases ho
    · cases ho
  · cases ho
end Go.Proofs.YtjklgmflillagaaDoor.Ev
