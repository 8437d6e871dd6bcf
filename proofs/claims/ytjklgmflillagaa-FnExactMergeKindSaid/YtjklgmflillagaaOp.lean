/- From a reading of the form's (DataW.trod) to a reading by kinds (Kd): what the printed contracts ask of an argument. Generic over the program. -/
import Derived.Test.YtjklgmflillagaaWWords
import Derived.Deep.Slices
import Derived.Lib.SmallJoins
import Derived.WideShapes
namespace Go.Proofs.Ytjklgmflillagaa.Op
open Go.Deep Go.ChangeShapes Go.WideShapes Go.Proofs.YtjklgmflillagaaW.PrintWords

/-- Whatever reads at type t is of kind d; 'good': what is known of it besides. -/
def Opens {α : Type} (P : Program) (t : Nat) (d : Kd α) (good : α → Prop) : Prop :=
  ∀ (H : Type) (enc : TypeId × Value → H) (w : World) (base fuel : Nat) (spare : Nat → Bool) (held : Bool) (cs : List Value) (x : DataW H × List MemPlace),
    DataW.trod enc P w base spare held fuel t cs = some x → ∃ a, good a ∧ d.K w a cs

theorem Opens.imp_ {α : Type} {P : Program} {t : Nat} {d : Kd α} {g g' : α → Prop} (h : Opens P t d g) (hg : ∀ a, g a → g' a) : Opens P t d g' :=
  fun _ _ _ _ _ _ _ _ _ hx => let ⟨a, h1, h2⟩ := h _ _ _ _ _ _ _ _ _ hx; ⟨a, hg a h1, h2⟩

theorem opens_int {P : Program} {t : Nat} {k : IntKind} (ht : P.underlying t = some (.int k)) : Opens P t (Kd.int k) (fun n => (Lit.int k n).wf = true) := by
  intro H enc w base fuel spare held cs x h
  obtain ⟨n, e, _, hw⟩ := DataW.trod_int ht h
  exact ⟨n, hw, e⟩

theorem opens_string {P : Program} {t : Nat} (ht : P.underlying t = some .string) : Opens P t Kd.string (fun s => s.size ≤ maxLen) := by
  intro H enc w base fuel spare held cs x h
  obtain ⟨s, e, _, hw⟩ := DataW.trod_string ht h
  exact ⟨s, hw, e⟩

theorem list_of {α : Type} {n : Nat} {p : Nat → α → Prop} (h : ∀ i, i < n → ∃ x, p i x) : ∃ xs : List α, xs.length = n ∧ ∀ i x, xs[i]? = some x → p i x := by
  induction n with
  | zero => exact ⟨[], rfl, fun i x hx => by simp at hx⟩
  | succ n ih =>
    obtain ⟨xs, hl, hp⟩ := ih (fun i hi => h i (by omega))
    obtain ⟨y, hy⟩ := h n (by omega)
    refine ⟨xs ++ [y], by simp [hl], fun i x hx => ?_⟩
    rcases Nat.lt_or_ge i n with hi | hi
    · rw [List.getElem?_append_left (by omega)] at hx
      exact hp i x hx
    · have hi' : i < (xs ++ [y]).length := (List.getElem?_eq_some_iff.1 hx).1
      have : i = n := by simp [hl] at hi'; omega
      subst this
      rw [List.getElem?_append_right (by omega)] at hx
      simp [hl] at hx
      rw [← hx]
      exact hy

theorem opens_row {α : Type} {P : Program} {t e : Nat} {d : Kd α} {g : α → Prop} (he : Opens P e d g) (ht : P.underlying t = some (.slice e)) (hc : P.cellsOf e = d.sz)
    {H : Type} {enc : TypeId × Value → H} {w : World} {base fuel : Nat} {spare : Nat → Bool} {held : Bool} {cs : List Value} {x : DataW H × List MemPlace}
    (h : DataW.trod enc P w base spare held fuel t cs = some x) :
    ∃ (xs : List α) (A : Option Addr) (c : Nat), (∀ x ∈ xs, g x) ∧ cs = [.slice A xs.length c] ∧ xs.length ≤ c ∧ c ≤ maxLen ∧ Kd.C d w A xs.length xs := by
  rcases open_slice ht h with ⟨rfl, _⟩ | ⟨a, len, cap, m, n, D, Pl, rfl, _, hl, hm, hmm, _, hx⟩
  · exact ⟨[], none, 0, by simp, rfl, Nat.le_refl _, Nat.zero_le _, rfl, Nat.zero_le _, fun h0 => absurd h0 (Nat.lt_irrefl 0)⟩
  · have hlm : len ≤ m := by rw [hmm]; split <;> omega
    have one : ∀ i, i < len → ∃ a', g a' ∧ ∃ cs', cs'.length = d.sz ∧ d.K w a' cs' ∧ ∀ j u, cs'[j]? = some u → w.cell? (a.add (i * d.sz + j)) = some u := by
      intro i hi
      obtain ⟨cs', h1, h2⟩ := hx i (by omega)
      obtain ⟨a', ga, ka⟩ := he _ _ _ _ _ _ _ _ _ h2
      refine ⟨a', ga, cs', d.K_len ka, ka, fun j u hj => ?_⟩
      rw [hc] at h1
      obtain ⟨_, hlen, hcell⟩ := World.cells?_some h1
      have hj' : j < d.sz := by
        have := (List.getElem?_eq_some_iff.1 hj).1
        rw [d.K_len ka] at this
        exact this
      have := hcell j hj'
      rw [Deep.add_add] at this
      rw [this, hj]
    obtain ⟨xs, rfl, hp⟩ := list_of one
    refine ⟨xs, some a, cap, fun x hx' => ?_, rfl, hl, hm, rfl, ?_, fun _ => ⟨a, rfl, fun j p hj => (hp j p hj).2⟩⟩
    · obtain ⟨i, hi⟩ := List.getElem?_of_mem hx'
      exact (hp i x hi).1
    · have : maxLen = 9223372036854775807 := rfl
      omega

theorem opens_slice {α : Type} {P : Program} {t e : Nat} {d : Kd α} {g : α → Prop} (he : Opens P e d g) (ht : P.underlying t = some (.slice e)) (hc : P.cellsOf e = d.sz) :
    Opens P t (Kd.slice e d) (fun xs => ∀ x ∈ xs, g x) := by
  intro H enc w base fuel spare held cs x h
  obtain ⟨xs, A, c, hg, e1, h1, _, h2⟩ := opens_row he ht hc h
  exact ⟨xs, hg, A, c, e1, h1, h2⟩

/-- The fields from offset o on. -/
def OpensF {α : Type} (P : Program) (o : Nat) (fs : List Field) (d : Kd α) (good : α → Prop) : Prop :=
  ∀ (H : Type) (enc : TypeId × Value → H) (w : World) (base fuel : Nat) (spare : Nat → Bool) (held : Bool) (cs : List Value),
    cs.length = o + d.sz → (∀ f ∈ fs, ∃ x, DataW.trod enc P w base spare held fuel f.type ((cs.drop f.offset).take (P.cellsOf f.type)) = some x) → ∃ a, good a ∧ d.K w a (cs.drop o)

theorem opensF_last {α : Type} {P : Program} {o : Nat} {f : Field} {d : Kd α} {g : α → Prop} (h : Opens P f.type d g) (ho : f.offset = o) (hc : P.cellsOf f.type = d.sz) : OpensF P o [f] d g := by
  intro H enc w base fuel spare held cs hl hf
  obtain ⟨x, hx⟩ := hf f (by simp)
  rw [ho, hc, List.take_of_length_le (by rw [List.length_drop]; omega)] at hx
  exact h _ _ _ _ _ _ _ _ _ hx

theorem opensF_cons {α β : Type} {P : Program} {o : Nat} {f : Field} {fs : List Field} {d : Kd α} {d' : Kd β} {g : α → Prop} {g' : β → Prop} (h : Opens P f.type d g) (ho : f.offset = o) (hc : P.cellsOf f.type = d.sz)
    (ht : OpensF P (o + d.sz) fs d' g') : OpensF P o (f :: fs) (Kd.pair d d') (fun p => g p.1 ∧ g' p.2) := by
  intro H enc w base fuel spare held cs hl hf
  have hl' : cs.length = o + d.sz + d'.sz := by rw [hl]; show o + (d.sz + d'.sz) = _; omega
  obtain ⟨x, hx⟩ := hf f (by simp)
  rw [ho, hc] at hx
  obtain ⟨a, ga, ka⟩ := h _ _ _ _ _ _ _ _ _ hx
  obtain ⟨b, gb, kb⟩ := ht _ _ _ _ _ _ _ _ hl' (fun f' hf' => hf f' (List.mem_cons_of_mem _ hf'))
  refine ⟨(a, b), ⟨ga, gb⟩, (cs.drop o).take d.sz, cs.drop (o + d.sz), ?_, ka, kb⟩
  rw [← List.drop_drop, List.take_append_drop]

theorem opens_struct {α : Type} {P : Program} {t : Nat} {fs : Array Field} {d : Kd α} {g : α → Prop} (ht : P.underlying t = some (.struct fs)) (hc : P.cellsOf t = d.sz) (h : OpensF P 0 fs.toList d g) : Opens P t d g := by
  intro H enc w base fuel spare held cs x hx
  obtain ⟨xs, n, _, _, hl, hlen, hf⟩ := DataW.trod_struct ht hx
  have := h H enc w base n spare held cs (by rw [hl, hc]; omega) (fun f hf' => by
    obtain ⟨i, hi⟩ := List.getElem?_of_mem hf'
    have hi' : fs[i]? = some f := by rw [← Array.getElem?_toList]; exact hi
    have := hf i f hi'
    have hlt : i < xs.length := by
      have := (Array.getElem?_eq_some_iff.1 hi').1
      omega
    rw [List.getElem?_eq_getElem hlt] at this
    exact ⟨_, this⟩)
  simpa using this

theorem opens_iso {α β : Type} {P : Program} {t : Nat} {d : Kd α} {g : α → Prop} {f : β → α} (h : Opens P t d g) (hs : ∀ a, ∃ b, f b = a) : Opens P t (Kd.iso d f) (fun b => g (f b)) := by
  intro H enc w base fuel spare held cs x hx
  obtain ⟨a, ga, ka⟩ := h _ _ _ _ _ _ _ _ _ hx
  obtain ⟨b, rfl⟩ := hs a
  exact ⟨b, ga, ka⟩

/-! ### An argument -/

theorem arg_struct {α : Type} {P : Program} {t : Nat} {fs : Array Field} {d : Kd α} {g : α → Prop} (ho : Opens P t d g) (hs : P.underlying t = some (.struct fs))
    {H : Type} {enc : TypeId × Value → H} {w : World} {r : Reach} {base b0 : Nat} {spare : Nat → Bool} {held : Bool} {v : Value} {x : DataW H} {ps : List MemPlace}
    (hv : Value.okWide P w r b0 t v) (h : DataW.Trod enc P w base spare held t v x ps) : ∃ (cs : Array Value) (a : α), v = .agg cs ∧ g a ∧ d.K w a cs.toList := by
  obtain ⟨cs, rfl, _⟩ := okWide_struct hs hv
  obtain ⟨fuel, hf⟩ := h
  obtain ⟨a, ga, ka⟩ := ho _ _ _ _ _ _ _ _ _ hf
  exact ⟨cs, a, rfl, ga, by simpa [Value.cells] using ka⟩

theorem arg_slice {α : Type} {P : Program} {t e : Nat} {d : Kd α} {g : α → Prop} (he : Opens P e d g) (hs : P.underlying t = some (.slice e)) (hc : P.cellsOf e = d.sz)
    {H : Type} {enc : TypeId × Value → H} {w : World} {r : Reach} {base b0 : Nat} {spare : Nat → Bool} {held : Bool} {v : Value} {x : DataW H} {ps : List MemPlace}
    (hv : Value.okWide P w r b0 t v) (h : DataW.Trod enc P w base spare held t v x ps) :
    ∃ (xs : List α) (A : Option Addr) (c : Nat), v = .slice A xs.length c ∧ (∀ x ∈ xs, g x) ∧ xs.length ≤ c ∧ c ≤ maxLen ∧ Kd.C d w A xs.length xs := by
  obtain ⟨a0, len, cap, rfl⟩ := okWide_slice hs hv
  obtain ⟨fuel, hf⟩ := h
  obtain ⟨xs, A, c, hg, e1, h1, h2, h3⟩ := opens_row he hs hc hf
  simp [Value.cells] at e1
  obtain ⟨rfl, rfl, rfl⟩ := e1
  exact ⟨xs, _, _, rfl, hg, h1, h2, h3⟩

/-- An array of values that is written out. -/
theorem agg_eq {cs : Array Value} {l : List Value} (h : cs.toList = l) : Value.agg cs = .agg l.toArray := by rw [← h]
end Go.Proofs.Ytjklgmflillagaa.Op
