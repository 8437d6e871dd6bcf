/- Regions whose order is drawn: the machine. -/
import Derived.Test.YtjklgmflillagaaDoorEv30
namespace Go.Proofs.YtjklgmflillagaaDoor.Ev
open Go Go.RowKit
set_option linter.unusedVariables false
set_option linter.unusedSimpArgs false

section
variable {α : Type} {P : Program} {E : Env} {B : Nat → Prop} {F : Fz} {g : List GE} {w : World} {H H2 H3 : Hp}
variable {call : (g : FuncId) → List AV → Hp → Option (Ret E g)} {ops : Array Oper}

theorem VR2_bnd {v : AV} {u : Value} (h : VR2 F w g v u) : Bnd g.length v := by
  have own1 : ∀ {v : AV} {u : Value}, VR0 F w g v u → ∀ id ∈ ownIds [v], id < g.length := by
    intro v u h id hid
    cases v with
    | all i s n =>
      obtain ⟨e, A, h1, _⟩ := h
      simp [ownIds] at hid; subst hid
      exact (List.getElem?_eq_some_iff.1 h1).1
    | own i s o n =>
      obtain ⟨e, A, h1, _⟩ := h
      simp [ownIds] at hid; subst hid
      exact (List.getElem?_eq_some_iff.1 h1).1
    | _ => simp [ownIds] at hid
  constructor
  · intro id hid
    cases v with
    | all i s n =>
      obtain ⟨e, A, h1, _⟩ := h
      simp [leafIds] at hid; subst hid
      exact (List.getElem?_eq_some_iff.1 h1).1
    | own i s o n =>
      obtain ⟨e, A, h1, _⟩ := h
      simp [leafIds] at hid; subst hid
      exact (List.getElem?_eq_some_iff.1 h1).1
    | ptr i j =>
      obtain ⟨e, h1, _⟩ := h
      simp [leafIds] at hid; subst hid
      exact (List.getElem?_eq_some_iff.1 h1).1
    | eptr i j k =>
      obtain ⟨e, h1, _⟩ := h
      simp [leafIds] at hid; subst hid
      exact (List.getElem?_eq_some_iff.1 h1).1
    | aptr i s n =>
      obtain ⟨e, h1, _⟩ := h
      simp [leafIds] at hid; subst hid
      exact (List.getElem?_eq_some_iff.1 h1).1
    | _ => simp [leafIds] at hid
  · intro id hid
    cases v with
    | agg cs =>
      obtain ⟨vs, _, h⟩ := h
      replace hid : id ∈ ownIds cs := hid
      generalize vs.toList = l at h
      induction h with
      | nil => simp [ownIds] at hid
      | cons h1 t ih =>
        rw [ownIds_cons] at hid
        rcases List.mem_append.1 hid with hid | hid
        · exact own1 h1 id hid
        · exact ih hid
    | tup cs => simp [cellsOf, ownIds] at hid
    | fn f cs => simp [cellsOf, ownIds] at hid
    | all i s n => exact own1 (v := .all i s n) h id hid
    | own i s o n => exact own1 (v := .own i s o n) h id hid
    | _ => simp [cellsOf, ownIds] at hid

theorem edge_iff {j i : Nat} : edge ops j i = true ↔ ∃ o, ops[j]? = some o ∧ ∃ e ∈ o.after, e.on = i ∧ Region.binds .any e = true := by
  unfold edge
  cases h : ops[j]? with
  | none => simp
  | some o =>
    simp only [Option.map_some, Option.getD_some, Array.any_eq_true', Bool.and_eq_true, beq_iff_eq]
    constructor
    · rintro ⟨e, h1, h2, h3⟩; exact ⟨o, rfl, e, h1, h2, h3⟩
    · rintro ⟨o', h0, e, h1, h2, h3⟩; cases h0; exact ⟨e, h1, h2, h3⟩

def Closed (ops : Array Oper) (listed : Array Bool) : Prop := ∀ m, listed.getD m false = true → ∀ i, edge ops m i = true → listed.getD i false = true

theorem mem_ready {listed : Array Bool} {i : Nat} : i ∈ Region.ready .any ops listed ↔ i < ops.size ∧ listed.getD i true = false ∧ ∀ j, edge ops i j = true → listed.getD j false = true := by
  unfold Region.ready
  simp only [List.mem_filter, List.mem_range, Bool.and_eq_true, Bool.not_eq_true']
  constructor
  · rintro ⟨h1, h2, h3⟩
    refine ⟨h1, h2, fun j hj => ?_⟩
    obtain ⟨o, ho, e, he, rfl, hb⟩ := edge_iff.1 hj
    rw [ho] at h3
    simp only [Option.map_some, Option.getD_some, Array.all_eq_true', Bool.or_eq_true, Bool.not_eq_true'] at h3
    rcases h3 e he with h | h
    · rw [hb] at h; cases h
    · exact h
  · rintro ⟨h1, h2, h3⟩
    refine ⟨h1, h2, ?_⟩
    rw [show ops[i]? = some ops[i] by simp [h1]]
    simp only [Option.map_some, Option.getD_some, Array.all_eq_true', Bool.or_eq_true, Bool.not_eq_true']
    intro e he
    cases hb : Region.binds .any e with
    | false => exact .inl rfl
    | true => exact .inr (h3 e.on (edge_iff.2 ⟨_, by simp [h1], e, he, rfl, hb⟩))

theorem getD_tf {listed : Array Bool} {i : Nat} (h : i < listed.size) (b c : Bool) : listed.getD i b = listed.getD i c := by
  simp [Array.getD, h]
theorem getD_set {listed : Array Bool} {i j : Nat} (h : i < listed.size) (b : Bool) : (listed.setIfInBounds i true).getD j b = if j = i then true else listed.getD j b := by
  by_cases hj : j = i
  · subst hj; simp [Array.getD, h]
  · simp only [Array.getD, hj, if_false]
    simp only [Array.size_setIfInBounds]
    split
    · rename_i h1
      simp only [Array.getInternal_eq_getElem]
      exact Array.getElem_setIfInBounds_ne h1 (Ne.symm hj)
    · rfl

theorem all_range {n : Nat} {p : Nat → Bool} (h : (List.range n).all p = true) {i : Nat} (hi : i < n) : p i = true := List.all_eq_true.1 h i (List.mem_range.2 hi)

theorem ready_nil (hback : backOk ops = true) {listed : Array Bool} (hl : listed.size = ops.size) (h : Region.ready .any ops listed = []) : ∀ i, i < ops.size → listed.getD i true = true := by
  intro i
  induction i using Nat.strongRecOn with
  | ind i ih =>
    intro hi
    cases hb : listed.getD i true with
    | true => rfl
    | false =>
      exfalso
      have : i ∈ Region.ready .any ops listed := by
        refine mem_ready.2 ⟨hi, hb, fun j hj => ?_⟩
        obtain ⟨o, ho, e, he, rfl, hbi⟩ := edge_iff.1 hj
        have := all_range hback hi
        rw [ho] at this
        simp only [Option.map_some, Option.getD_some, Bool.and_eq_true, Array.all_eq_true', Bool.or_eq_true, Bool.not_eq_true'] at this
        rcases this.1 e he with h' | h'
        · rw [hbi] at h'; cases h'
        · have hlt : e.on < i := by simpa [Nat.blt_eq] using h'
          rw [getD_tf (by rw [hl]; omega) false true]
          exact ih _ hlt (by omega)
      rw [h] at this
      cases this

def remOf (ops : Array Oper) (listed : Array Bool) : List Nat := (List.range ops.size).filter fun i => !listed.getD i true
theorem rem_sorted (listed : Array Bool) : (remOf ops listed).Pairwise (· < ·) := List.Pairwise.filter _ List.pairwise_lt_range

theorem filter_split {l1 l2 : List Nat} {i : Nat} (h : (l1 ++ i :: l2).Pairwise (· < ·)) : (l1 ++ i :: l2).filter (fun j => !(j == i)) = l1 ++ l2 := by
  rw [List.pairwise_append] at h
  obtain ⟨h1, h2, h3⟩ := h
  rw [List.pairwise_cons] at h2
  rw [List.filter_append, List.filter_cons]
  simp only [beq_self_eq_true, Bool.not_true, Bool.false_eq_true, if_false]
  congr 1
  · rw [List.filter_eq_self]
    intro a ha
    have := h3 a ha i (by simp)
    simp; omega
  · rw [List.filter_eq_self]
    intro a ha
    have := h2.1 a ha
    simp; omega

theorem rem_step {listed : Array Bool} (hl : listed.size = ops.size) {i : Nat} (hi : i < ops.size) {l1 l2 : List Nat} (h : remOf ops listed = l1 ++ i :: l2) : remOf ops (listed.setIfInBounds i true) = l1 ++ l2 := by
  have hs := rem_sorted (ops := ops) listed
  rw [h] at hs
  rw [← filter_split hs, ← h]
  unfold remOf
  rw [List.filter_filter]
  refine List.filter_congr fun j hj => ?_
  rw [getD_set (by rw [hl]; exact hi)]
  by_cases hji : j = i
  · subst hji; simp
  · simp [hji]

theorem drawn_any (hE : ∀ t, TiOk P E t) (hfi : FiOk P E) (hcall : CallOk P E call) (hd : drawOk E ops = true) {K : List AV → Hp → Option α} {x : α} {Q : Exit → Act → World → Prop} :
    ∀ (fuel : Nat) (listed : Array Bool) (ts : List AV) (H : Hp) (a : Act) (w : World) (F : Fz) (g : List GE), listed.size = ops.size → (remOf ops listed).length ≤ fuel → Closed ops listed →
    opsK E call (fun _ _ _ _ => none) ops (remOf ops listed) ts H K = some x → St B F g w H ts a → GlobOk E F w →
    (∀ ts' H' a' w' F' g', K ts' H' = some x → St B F' g' w' H' ts' a' → GlobOk E F' w' → Gr B F g w F' g' w' → Q .normal a' w') →
    wpAny P .any ops Q fuel listed a w := by
  have ⟨hback, hpair⟩ := Bool.and_eq_true_iff.1 hd
  intro fuel
  induction fuel with
  | zero =>
    intro listed ts H a w F g hl hf hc h hs hg hK
    have hr : remOf ops listed = [] := List.length_eq_zero_iff.1 (by omega)
    rw [hr] at h
    refine ⟨?_, hK ts H a w F g h hs hg (Gr.refl ..)⟩
    rw [List.eq_nil_iff_forall_not_mem]
    intro i hi
    have ⟨h1, h2, _⟩ := mem_ready.1 hi
    have : i ∈ remOf ops listed := List.mem_filter.2 ⟨List.mem_range.2 h1, by rw [h2]; rfl⟩
    rw [hr] at this
    cases this
  | succ fuel ih =>
    intro listed ts H a w F g hl hf hc h hs hg hK
    refine ⟨fun hnil => ?_, fun i hi => ?_⟩
    · have hall := ready_nil hback hl hnil
      have hr : remOf ops listed = [] := by
        unfold remOf
        rw [List.filter_eq_nil_iff]
        intro i hi
        rw [hall i (List.mem_range.1 hi)]
        simp
      rw [hr] at h
      exact hK ts H a w F g h hs hg (Gr.refl ..)
    · obtain ⟨hi1, hi2, hi3⟩ := mem_ready.1 hi
      have hmem : i ∈ remOf ops listed := List.mem_filter.2 ⟨List.mem_range.2 hi1, by rw [hi2]; rfl⟩
      obtain ⟨l1, l2, hrem⟩ := List.append_of_mem hmem
      have hsort := rem_sorted (ops := ops) listed
      rw [hrem, List.pairwise_append] at hsort
      have hoi : ops[i]? = some ops[i] := by simp [hi1]
      rw [hrem] at h
      have hap : ∀ k ∈ l1, ∃ ok, ops[k]? = some ok ∧ Apart E ops ok ops[i] := by
        intro k hk
        have hlt : k < i := hsort.2.2 k hk i (by simp)
        have hun : listed.getD k true = false := by
          have : k ∈ remOf ops listed := by rw [hrem]; simp [hk]
          simpa using (List.mem_filter.1 this).2
        have hun' : listed.getD k false = false := by rw [getD_tf (by omega) false true]; exact hun
        refine ⟨ops[k]'(by omega), by simp, ?_⟩
        have hp := all_range (all_range hpair hi1) hlt
        rw [hoi, show ops[k]? = some (ops[k]'(by omega)) by simp] at hp
        simp only [Bool.or_eq_true, Bool.and_eq_true] at hp
        rcases hp with hp | ⟨⟨p1, p2⟩, p3⟩
        · exfalso
          have hnot : ∀ m, listed.getD m false = true → edge ops m k = true → False := fun m h1 h2 => by
            have := hc m h1 k h2
            rw [hun'] at this; cases this
          unfold aheadOf at hp
          simp only [Bool.or_eq_true, List.any_eq_true, Bool.and_eq_true] at hp
          rcases hp with hp | ⟨m, _, hm, hp | ⟨m', _, h1, h2⟩⟩
          · have := hi3 k hp
            rw [hun'] at this; cases this
          · exact hnot m (hi3 m hm) hp
          · exact hnot m' (hc m (hi3 m hm) m' h1) h2
        · have nl : ∀ (q : Nat) (hq : q < ops.size), nilOp ops[q].op = false := fun q hq => by
            have := all_range hback hq
            rw [show ops[q]? = some ops[q] by simp [hq]] at this
            simp only [Option.map_some, Option.getD_some, Bool.and_eq_true, Bool.not_eq_true'] at this
            exact this.2
          refine ⟨fun d hd => ?_, fun d hd => ?_, fun d hd => ?_, nl k (by omega), nl i hi1, p3⟩
          · rw [hd] at p1
            simp at p1; exact p1.1
          · rw [hd] at p2
            simp at p2; exact p2
          · rw [hd] at p1
            simp at p1; exact p1.2
      have h2 := front hoi l1 ts H hap (fun _ y _ => by rw [← hs.heap.len]; exact VR2_bnd (opnd_ok hs hg y)) h
      refine opsK_one hE hfi hcall (fun _ _ _ _ _ _ _ _ _ _ _ h => by cases h) h2 hs hg fun ts' H' a' w' F' g' k1 k2 k3 k4 => ?_
      have hrem' := rem_step hl hi1 hrem
      refine ih _ ts' H' a' w' F' g' (by simpa using hl) ?_ ?_ (by rw [hrem']; exact k1) k2 k3 fun ts'' H'' a'' w'' F'' g'' q1 q2 q3 q4 => hK ts'' H'' a'' w'' F'' g'' q1 q2 q3 (k4.trans q4)
      · rw [hrem'] ; rw [hrem] at hf; simp at hf ⊢; omega
      · intro m hm j hj
        rw [getD_set (by omega)] at hm ⊢
        split
        · rfl
        · split at hm
          · rename_i hmi; subst hmi; exact hi3 j hj
          · exact hc m hm j hj
end
end Go.Proofs.YtjklgmflillagaaDoor.Ev
