/- Regions whose order is drawn: what the order of the text says holds in every order. -/
import Derived.Test.YtjklgmflillagaaDoorEv29
namespace Go.Proofs.YtjklgmflillagaaDoor.Ev
open Go Go.RowKit
set_option linter.unusedVariables false
set_option linter.unusedSimpArgs false

section
variable {α : Type} {P : Program} {E : Env} {B : Nat → Prop} {F : Fz} {g : List GE} {w : World} {H H2 H3 : Hp}
variable {call : (g : FuncId) → List AV → Hp → Option (Ret E g)} {ops : Array Oper}

theorem guard_cases (ops : Array Oper) (ts : List AV) (o : Oper) :
    (∀ {α : Type} (yes no : Option α), guardOf ops ts o yes no = yes) ∨ (∀ {α : Type} (yes no : Option α), guardOf ops ts o yes no = no) ∨ (∀ {α : Type} (yes no : Option α), guardOf ops ts o yes no = none) := by
  unfold guardOf
  split
  · exact .inl fun _ _ => rfl
  · rename_i j want _
    split
    · rename_i d _
      split
      · rename_i b _
        cases hb : (b == want) with
        | true => exact .inl fun _ _ => rfl
        | false => exact .inr (.inl fun _ _ => rfl)
      · exact .inr (.inl fun _ _ => rfl)
      · exact .inr (.inr fun _ _ => rfl)
    · exact .inr (.inr fun _ _ => rfl)

noncomputable def step1 (E : Env) (call : (g : FuncId) → List AV → Hp → Option (Ret E g)) (ops : Array Oper) (o : Oper) (ts : List AV) (H : Hp) : Option (AV × Hp) :=
  guardOf ops ts o (opStep E call o ts H) (some (.raw undef, H))

theorem opsK_step1 {i : Nat} {r : List Nat} {ts : List AV} {K : List AV → Hp → Option α} {o : Oper} (ho : ops[i]? = some o) (hn : nilOp o.op = false) :
    opsK E call (fun _ _ _ _ => none) ops (i :: r) ts H K = (step1 E call ops o ts H).bind fun p => opsK E call (fun _ _ _ _ => none) ops r (put ts o.dst p.1) p.2 K := by
  rw [opsK_step ho hn]
  unfold step1
  rcases guard_cases ops ts o with h | h | h <;> simp only [h] <;> rfl

theorem guardOf_put {ts : List AV} {dd : Option Tmp} {v : AV} {o : Oper} (h : ∀ d, dd = some d → d ∉ looks ops o) {yes no : Option α} : guardOf ops (put ts dd v) o yes no = guardOf ops ts o yes no := by
  cases dd with
  | none => rfl
  | some d =>
    have hd := h d rfl
    unfold guardOf
    cases hg : o.guard with
    | none => rfl
    | some p =>
      obtain ⟨j, want⟩ := p
      simp only []
      cases hj : (ops[j]?).bind (·.dst) with
      | none => rfl
      | some e =>
        have hne : d ≠ e := by
          rintro rfl
          exact hd (by simp [looks, hg, hj])
        simp only [put, List.getD]
        rw [List.getElem?_set_ne hne]

theorem step1_put {ts : List AV} {dd : Option Tmp} {v : AV} {o : Oper} (h : ∀ d, dd = some d → d ∉ looks ops o) : step1 E call ops o (put ts dd v) H = step1 E call ops o ts H := by
  unfold step1
  rw [guardOf_put h, opStep_congr fun y hy => opnd_put fun t ht e => h t ht ?_]
  simp only [looks, List.mem_append, List.mem_filterMap]
  exact .inl ⟨y, by simpa using hy, by rw [e]⟩

theorem step1_zero {o : Oper} {ts : List AV} {σ : AV} {H' : Hp} (hk : kindOf E o.op = 0) (h : step1 E call ops o ts H = some (σ, H')) : H' = H ∧ ∀ H2, step1 E call ops o ts H2 = some (σ, H2) := by
  unfold step1 at h ⊢
  rcases guard_cases ops ts o with hg | hg | hg
  · simp only [hg] at h ⊢; exact opStep_zero hk h
  · simp only [hg] at h ⊢; cases h; exact ⟨rfl, fun _ => rfl⟩
  · simp only [hg] at h; cases h
theorem step1_read {o : Oper} {ts : List AV} {σ : AV} {H' : Hp} (hk : kindOf E o.op = 1) (h : step1 E call ops o ts H = some (σ, H')) : H' = H ∧ ∀ H2, HLe H H2 → step1 E call ops o ts H2 = some (σ, H2) := by
  unfold step1 at h ⊢
  rcases guard_cases ops ts o with hg | hg | hg
  · simp only [hg] at h ⊢; exact (opStep_read hk).1 _ _ _ h
  · simp only [hg] at h ⊢; cases h; exact ⟨rfl, fun _ _ => rfl⟩
  · simp only [hg] at h; cases h
theorem step1_anti {o : Oper} {ts : List AV} {σ : AV} {H' : Hp} (hk : kindOf E o.op = 1) (h : step1 E call ops o ts H2 = some (σ, H')) (hl : HLe H H2) (hb : ∀ y ∈ o.op.operands, Bnd H.length (opnd E ts y)) : step1 E call ops o ts H = some (σ, H) := by
  unfold step1 at h ⊢
  rcases guard_cases ops ts o with hg | hg | hg
  · simp only [hg] at h ⊢; exact (opStep_read hk).2 _ _ _ _ h hl hb
  · simp only [hg] at h ⊢; cases h; rfl
  · simp only [hg] at h; cases h
theorem step1_new {o : Oper} {ts : List AV} {σ : AV} {H' : Hp} (hk : kindOf E o.op = 2) (h : step1 E call ops o ts H = some (σ, H')) : HLe H H' := by
  unfold step1 at h
  rcases guard_cases ops ts o with hg | hg | hg
  · simp only [hg] at h; exact opStep_new hk h
  · simp only [hg] at h; cases h; exact .refl _
  · simp only [hg] at h; cases h

theorem put_comm {ts : List AV} {a b : Option Tmp} {u v : AV} (h : ∀ d, a = some d → b ≠ some d) : put (put ts a u) b v = put (put ts b v) a u := by
  cases a with
  | none => rfl
  | some a =>
    cases b with
    | none => rfl
    | some b =>
      simp only [put]
      exact List.set_comm _ _ fun e => h a rfl (by rw [e])

structure Apart (E : Env) (ops : Array Oper) (a b : Oper) : Prop where
  ab : ∀ d, a.dst = some d → d ∉ looks ops b
  ba : ∀ d, b.dst = some d → d ∉ looks ops a
  ne : ∀ d, a.dst = some d → b.dst ≠ some d
  nila : nilOp a.op = false
  nilb : nilOp b.op = false
  kind : apartK (kindOf E a.op) (kindOf E b.op) = true

theorem apartK_cases {a b : Nat} (h : apartK a b = true) : a = 0 ∨ b = 0 ∨ (a = 1 ∧ b = 1) ∨ (a = 1 ∧ b = 2) ∨ (a = 2 ∧ b = 1) := by
  unfold apartK at h
  split at h
  · exact .inl rfl
  · exact .inr (.inl rfl)
  · exact .inr (.inr (.inl ⟨rfl, rfl⟩))
  · exact .inr (.inr (.inr (.inl ⟨rfl, rfl⟩)))
  · exact .inr (.inr (.inr (.inr ⟨rfl, rfl⟩)))
  · cases h

theorem swap {k i : Nat} {ok oi : Oper} {r : List Nat} {ts : List AV} {K : List AV → Hp → Option α} {x : α} (hk : ops[k]? = some ok) (hi : ops[i]? = some oi) (ha : Apart E ops ok oi)
    (hb : kindOf E oi.op = 1 → ∀ y ∈ oi.op.operands, Bnd H.length (opnd E ts y))
    (h : opsK E call (fun _ _ _ _ => none) ops (k :: i :: r) ts H K = some x) : opsK E call (fun _ _ _ _ => none) ops (i :: k :: r) ts H K = some x := by
  rw [opsK_step1 hk ha.nila] at h
  obtain ⟨⟨σk, Hk⟩, h1, h2⟩ := Option.bind_eq_some_iff.1 h
  simp only [] at h2
  rw [opsK_step1 hi ha.nilb] at h2
  obtain ⟨⟨σi, Hi⟩, h3, h4⟩ := Option.bind_eq_some_iff.1 h2
  simp only [] at h4
  rw [step1_put ha.ab] at h3
  have : ∃ H1, step1 E call ops oi ts H = some (σi, H1) ∧ step1 E call ops ok ts H1 = some (σk, Hi) := by
    rcases apartK_cases ha.kind with h0 | h0 | ⟨h0, h00⟩ | ⟨h0, h00⟩ | ⟨h0, h00⟩
    · obtain ⟨rfl, h5⟩ := step1_zero h0 h1
      exact ⟨_, h3, h5 _⟩
    · obtain ⟨rfl, h5⟩ := step1_zero h0 h3
      exact ⟨_, h5 _, h1⟩
    · obtain ⟨rfl, h5⟩ := step1_read h0 h1
      obtain ⟨rfl, h6⟩ := step1_read h00 h3
      exact ⟨_, h3, h1⟩
    · obtain ⟨rfl, h5⟩ := step1_read h0 h1
      exact ⟨_, h3, h5 _ (step1_new h00 h3)⟩
    · obtain ⟨rfl, h6⟩ := step1_read h00 h3
      exact ⟨_, step1_anti h00 h3 (step1_new h0 h1) (hb h00), h1⟩
  obtain ⟨H1, k1, k2⟩ := this
  rw [opsK_step1 hi ha.nilb, k1]
  simp only [Option.bind_some]
  rw [opsK_step1 hk ha.nila, step1_put ha.ba, k2]
  simp only [Option.bind_some]
  rw [← put_comm ha.ne]
  exact h4

theorem Bnd.mono {n m : Nat} {v : AV} (h : Bnd n v) (k : n ≤ m) : Bnd m v := ⟨fun i hi => Nat.lt_of_lt_of_le (h.1 i hi) k, fun i hi => Nat.lt_of_lt_of_le (h.2 i hi) k⟩

theorem front {i : Nat} {oi : Oper} {l2 : List Nat} {K : List AV → Hp → Option α} {x : α} (hi : ops[i]? = some oi) : ∀ (l1 : List Nat) (ts : List AV) (H : Hp),
    (∀ k ∈ l1, ∃ ok, ops[k]? = some ok ∧ Apart E ops ok oi) → (kindOf E oi.op = 1 → ∀ y ∈ oi.op.operands, Bnd H.length (opnd E ts y)) →
    opsK E call (fun _ _ _ _ => none) ops (l1 ++ i :: l2) ts H K = some x → opsK E call (fun _ _ _ _ => none) ops (i :: (l1 ++ l2)) ts H K = some x
  | [], ts, H, _, _, h => h
  | k :: l1, ts, H, ha, hb, h => by
    obtain ⟨ok, hk, hap⟩ := ha k (by simp)
    refine swap hk hi hap hb ?_
    have h : opsK E call (fun _ _ _ _ => none) ops (k :: (l1 ++ i :: l2)) ts H K = some x := h
    rw [opsK_step1 hk hap.nila] at h ⊢
    obtain ⟨⟨σk, Hk⟩, h1, h2⟩ := Option.bind_eq_some_iff.1 h
    simp only [] at h2
    rw [h1]
    simp only [Option.bind_some]
    refine front hi l1 _ _ (fun k' hk' => ha k' (by simp [hk'])) (fun h0 y hy => ?_) h2
    have hl : H.length ≤ Hk.length := by
      rcases apartK_cases hap.kind with h5 | h5 | ⟨h5, _⟩ | ⟨h5, h6⟩ | ⟨h5, _⟩
      · rw [(step1_zero h5 h1).1]; exact Nat.le_refl _
      · rw [h0] at h5; cases h5
      · rw [(step1_read h5 h1).1]; exact Nat.le_refl _
      · rw [h0] at h6; cases h6
      · exact (step1_new h5 h1).len
    rw [opnd_put fun t ht e => hap.ab t ht ?_]
    · exact (hb h0 y hy).mono hl
    · simp only [looks, List.mem_append, List.mem_filterMap]
      exact .inl ⟨y, by simpa using hy, by rw [e]⟩
end
end Go.Proofs.YtjklgmflillagaaDoor.Ev
