/- Operations that read, and operations that make new. -/
import Derived.Test.YtjklgmflillagaaDoorEv28
namespace Go.Proofs.YtjklgmflillagaaDoor.Ev
open Go Go.RowKit
set_option linter.unusedVariables false
set_option linter.unusedSimpArgs false

section
variable {α : Type} {P : Program} {E : Env} {B : Nat → Prop} {F : Fz} {g : List GE} {w : World} {H H2 H3 : Hp}

def BLe (b b' : Blk) : Prop := b' = b ∨ ∃ t l c c', b = .arr t l c ∧ b' = .arr t l c'
structure HLe (H H2 : Hp) : Prop where
  len : H.length ≤ H2.length
  get : ∀ (i : Nat) b, H[i]? = some b → ∃ b', H2[i]? = some b' ∧ BLe b b'
theorem BLe.trans {a b c : Blk} (h : BLe a b) (k : BLe b c) : BLe a c := by
  rcases h with rfl | ⟨t, l, c1, c2, rfl, rfl⟩
  · exact k
  · rcases k with rfl | ⟨t', l', c1', c2', h1, h2⟩
    · exact .inr ⟨t, l, c1, c2, rfl, rfl⟩
    · cases h1
      exact .inr ⟨t, l, c1, c2', rfl, h2⟩
theorem HLe.refl (H : Hp) : HLe H H := ⟨Nat.le_refl _, fun i b h => ⟨b, h, .inl rfl⟩⟩
theorem HLe.trans (h : HLe H H2) (k : HLe H2 H3) : HLe H H3 := ⟨Nat.le_trans h.len k.len, fun i b hb => by
  obtain ⟨b', h1, h2⟩ := h.get i b hb
  obtain ⟨b'', k1, k2⟩ := k.get i b' h1
  exact ⟨b'', k1, h2.trans k2⟩⟩
theorem HLe.app (H X : Hp) : HLe H (H ++ X) := ⟨by simp, fun i b h => ⟨b, by rw [List.getElem?_append_left (List.getElem?_eq_some_iff.1 h).1]; exact h, .inl rfl⟩⟩
theorem HLe.lend1 (H : Hp) (id : Nat) : HLe H (lend1 H id) := ⟨by simp [lend1_len], fun i b h => by
  unfold Ev.lend1
  rw [List.getElem?_modify]
  rw [h]
  by_cases hi : id = i
  · simp only [if_pos hi]
    refine ⟨_, rfl, ?_⟩
    cases b with
    | arr t l c => exact .inr ⟨t, l, c, true, rfl, rfl⟩
    | _ => exact .inl rfl
  · simp only [if_neg hi]
    exact ⟨_, rfl, .inl rfl⟩⟩
theorem HLe.lendAll : ∀ (ids : List Nat) (H : Hp), HLe H (lendAll H ids)
  | [], H => .refl H
  | i :: r, H => (HLe.lend1 H i).trans (HLe.lendAll r _)

theorem HLe.lt (h : HLe H H2) {i : Nat} (hi : i < H.length) : ∃ b b', H[i]? = some b ∧ H2[i]? = some b' ∧ BLe b b' := by
  obtain ⟨b, hb⟩ : ∃ b, H[i]? = some b := ⟨H[i], by simp [hi]⟩
  obtain ⟨b', k1, k2⟩ := h.get i b hb
  exact ⟨b, b', hb, k1, k2⟩

theorem loadP_eq (h : HLe H H2) {agg : Bool} {sz : Nat} {v : AV} (hi : ∀ id ∈ leafIds v, id < H.length) : loadP H agg sz v = loadP H2 agg sz v := by
  cases v with
  | ptr id i =>
    obtain ⟨b, b', h1, h2, h3⟩ := h.lt (hi id (by simp [leafIds]))
    simp only [loadP, h1, h2]
    rcases h3 with rfl | ⟨t, l, c1, c2, rfl, rfl⟩ <;> rfl
  | eptr id i j =>
    obtain ⟨b, b', h1, h2, h3⟩ := h.lt (hi id (by simp [leafIds]))
    simp only [loadP, h1, h2]
    rcases h3 with rfl | ⟨t, l, c1, c2, rfl, rfl⟩ <;> rfl
  | _ => rfl
theorem loadP_lt {agg : Bool} {sz : Nat} {v u : AV} (h : loadP H agg sz v = some u) : ∀ id ∈ leafIds v, id < H.length := by
  intro id hid
  cases v with
  | ptr id' i =>
    simp only [leafIds, List.mem_singleton] at hid
    subst hid
    simp only [loadP] at h
    split at h
    · rename_i hb; exact (List.getElem?_eq_some_iff.1 hb).1
    · cases h
  | eptr id' i j =>
    simp only [leafIds, List.mem_singleton] at hid
    subst hid
    simp only [loadP] at h
    split at h
    · rename_i hb; exact (List.getElem?_eq_some_iff.1 hb).1
    · cases h
  | all | own | aptr => simp [loadP] at h
  | _ => simp [leafIds] at hid

theorem isArr_eq (h : HLe H H2) {i : Nat} (hi : i < H.length) : isArr H i = isArr H2 i := by
  obtain ⟨b, b', h1, h2, h3⟩ := h.lt hi
  simp only [isArr, h1, h2]
  rcases h3 with rfl | ⟨t, l, c1, c2, rfl, rfl⟩ <;> rfl
theorem isArr_lt {i : Nat} (h : isArr H i = true) : i < H.length := by
  unfold isArr at h
  split at h
  · rename_i hb; exact (List.getElem?_eq_some_iff.1 hb).1
  · cases h
theorem argsOk_lt {args : List AV} (h : argsOk H args = true) : ∀ v ∈ args, ∀ id ∈ ownIds (cellsOf v), id < H.length := fun v hv id hid =>
  isArr_lt (List.all_eq_true.1 h id (List.mem_flatMap.2 ⟨v, hv, hid⟩))
theorem argsOk_eq (h : HLe H H2) {args : List AV} (hi : ∀ v ∈ args, ∀ id ∈ ownIds (cellsOf v), id < H.length) : argsOk H args = argsOk H2 args := by
  unfold argsOk
  generalize hl : (args.flatMap fun v => ownIds (cellsOf v)) = l
  have : ∀ id ∈ l, id < H.length := fun id hid => by
    rw [← hl] at hid
    obtain ⟨v, hv, hid⟩ := List.mem_flatMap.1 hid
    exact hi v hv id hid
  clear hl
  induction l with
  | nil => rfl
  | cons i l ih => simp only [List.all_cons, isArr_eq h (this i (by simp)), ih fun j hj => this j (by simp [hj])]
theorem lendV_eq (h : HLe H H2) {v : AV} (hi : ∀ id ∈ ownIds [v], id < H.length) : lendV H v = lendV H2 v := by
  cases v with
  | all id sz n =>
    obtain ⟨b, b', h1, h2, h3⟩ := h.lt (hi id (by simp [ownIds]))
    simp only [lendV, h1, h2]
    rcases h3 with rfl | ⟨t, l, c1, c2, rfl, rfl⟩ <;> rfl
  | own id sz off n =>
    obtain ⟨b, b', h1, h2, h3⟩ := h.lt (hi id (by simp [ownIds]))
    simp only [lendV, h1, h2]
    rcases h3 with rfl | ⟨t, l, c1, c2, rfl, rfl⟩ <;> rfl
  | _ => rfl
theorem lendArg_eq (h : HLe H H2) {v : AV} (hi : ∀ id ∈ ownIds (cellsOf v), id < H.length) : lendArg H v = lendArg H2 v := by
  cases v with
  | agg cs =>
    simp only [lendArg, AV.agg.injEq]
    replace hi : ∀ id ∈ ownIds cs, id < H.length := hi
    refine List.map_congr_left fun v hv => lendV_eq h fun id hid => hi id (ownIds_sub (by simpa using hv) id hid)
  | _ => first | rfl | exact lendV_eq h hi
theorem lendArgs_eq (h : HLe H H2) {args : List AV} (hi : ∀ v ∈ args, ∀ id ∈ ownIds (cellsOf v), id < H.length) : args.map (lendArg H) = args.map (lendArg H2) :=
  List.map_congr_left fun v hv => lendArg_eq h (hi v hv)

/-- what an operand may name -/
def Bnd (n : Nat) (v : AV) : Prop := (∀ id ∈ leafIds v, id < n) ∧ ∀ id ∈ ownIds (cellsOf v), id < n

theorem retVals_ro (ts : List Ty) (x : (retTy ts).den) (b b2 : Nat) : retVals false ts x b = retVals false ts x b2 ∧ (retVals false ts x b).2 = [] := by
  match ts, x with
  | [], _ => exact ⟨rfl, rfl⟩
  | [t], _ => exact ⟨rfl, rfl⟩
  | t :: u :: ts, x =>
    simp only [retVals]
    rw [(retVals_ro (u :: ts) x.2 b b2).1]
    exact ⟨rfl, True.intro⟩

/-- kind 1 -/
theorem opStep_read {call : (g : FuncId) → List AV → Hp → Option (Ret E g)} {o : Oper} {ts : List AV} (hk : kindOf E o.op = 1) :
    (∀ H σ H', opStep E call o ts H = some (σ, H') → H' = H ∧ ∀ H2, HLe H H2 → opStep E call o ts H2 = some (σ, H2)) ∧
    (∀ H H2 σ H', opStep E call o ts H2 = some (σ, H') → HLe H H2 → (∀ y ∈ o.op.operands, Bnd H.length (opnd E ts y)) → opStep E call o ts H = some (σ, H)) := by
  unfold opStep
  cases ho : o.op with
  | load t a =>
    simp only [opK]
    constructor
    · intro H σ H' h
      split at h
      · rename_i v hsz hv
        cases h
        refine ⟨rfl, fun H2 hl => ?_⟩
        rw [← loadP_eq hl (loadP_lt hv), hsz, hv]
      · cases h
    · intro H H2 σ H' h hl hb
      rw [loadP_eq hl (hb a (by simp [Op.operands])).1]
      split at h
      · rename_i v hsz hv
        cases h
        rfl
      · cases h
  | call c =>
    rw [ho] at hk
    simp only [kindOf] at hk
    cases hc : c.callee with
    | builtin b =>
      rw [hc] at hk
      cases b <;> simp at hk
    | invoke a b => simp only [hc]; refine ⟨fun _ _ _ h => ?_, fun _ _ _ _ h => ?_⟩ <;> cases h
    | value f =>
      rw [hc] at hk
      cases f with
      | func k =>
        simp only [] at hk
        cases hg : E.fi k with
        | none => rw [hg] at hk; cases hk
        | some gi =>
          rw [hg] at hk
          simp only [] at hk
          cases hi : gi.inl with
          | true => rw [hi] at hk; cases hk
          | false =>
            rw [hi, Bool.false_or] at hk
            cases hs : (gi.own || shares false gi.rts) with
            | true => rw [hs] at hk; cases hgt : gi.take <;> rw [hgt] at hk <;> cases hk
            | false =>
              have ⟨ho1, hs1⟩ := Bool.or_eq_false_iff.1 hs
              have hr : rtsOf E k = gi.rts := by unfold rtsOf; rw [hg]
              have hfo : opnd E ts (.func k) = .fn k [] := rfl
              have ht : gi.take = false := by
                cases ht : gi.take with
                | false => rfl
                | true => rw [ht] at hk; cases hk
              simp only [hc, hfo, hg, hi, ht]
              have hac : ∀ (args : List AV) (H : Hp), afterCall gi.own (rtsOf E k) args H = H := by
                intro args H
                unfold afterCall
                rw [hr, ho1, hs1]
              have hv : ∀ x b, (retVals gi.own (rtsOf E k) x b).2 = [] := by
                intro x b
                rw [ho1]
                exact (retVals_ro _ x b b).2
              have hv1 : ∀ x b b2, (retVals gi.own (rtsOf E k) x b).1 = (retVals gi.own (rtsOf E k) x b2).1 := by
                intro x b b2
                rw [ho1, (retVals_ro _ x b b2).1]
              constructor
              · intro H σ H' h
                split at h
                · rename_i hok
                  rw [Bool.and_eq_true] at hok
                  obtain ⟨hok, hbe⟩ := hok
                  obtain ⟨x, hx, hy⟩ := Option.bind_eq_some_iff.1 h
                  rw [hac, hv, List.append_nil] at hy
                  cases hy
                  refine ⟨rfl, fun H2 hl => ?_⟩
                  have hlt := argsOk_lt hok
                  rw [argsOk_eq hl hlt] at hok
                  rw [hok, hbe]
                  simp only [Bool.and_self]
                  rw [← lendArgs_eq hl hlt, hx]
                  simp only [Option.bind_some]
                  rw [hac, hv, List.append_nil, hv1 (rFst (rtsOf E k) (backOf E k) x) H2.length H.length]
                · cases h
              · intro H H2 σ H' h hl hb
                have hlt : ∀ v ∈ c.args.toList.map (opnd E ts), ∀ id ∈ ownIds (cellsOf v), id < H.length := by
                  intro v hv
                  obtain ⟨y, hy, rfl⟩ := List.mem_map.1 hv
                  exact (hb y (by simp only [Op.operands, Call.operands, Array.mem_append]; exact .inr (by simpa using hy))).2
                split at h
                · rename_i hok
                  rw [Bool.and_eq_true] at hok
                  obtain ⟨hok, hbe⟩ := hok
                  obtain ⟨x, hx, hy⟩ := Option.bind_eq_some_iff.1 h
                  rw [hac, hv, List.append_nil] at hy
                  cases hy
                  rw [argsOk_eq hl hlt, hok, hbe]
                  simp only [Bool.and_self]
                  rw [lendArgs_eq hl hlt, hx]
                  simp only [Option.bind_some]
                  rw [hac, hv, List.append_nil, hv1 (rFst (rtsOf E k) (backOf E k) x) H.length H2.length]
                · cases h
      | _ => simp at hk
  | buildSlice t n p =>
    rw [ho] at hk
    cases n with
    | zero => simp [kindOf] at hk
    | succ n =>
      simp only [kindOf] at hk
      split at hk
      · split at hk <;> cases hk
      · cases hk
  | slice t x lo hi mx =>
    rw [ho] at hk
    simp only [kindOf] at hk
    have hww : ∀ {H H2 : Hp} {b : Bool} {v : AV}, HLe H H2 → (∀ id ∈ leafIds v, id < H.length) → widen H b v = widen H2 b v := by
      intro H H2 b v hl hb
      unfold widen
      split
      · rename_i id s off n
        obtain ⟨b1, b2, q1, q2, q3⟩ := hl.lt (hb id (by simp [leafIds]))
        rw [q1, q2]
        rcases q3 with rfl | ⟨t, l, c1, c2, rfl, rfl⟩ <;> rfl
      · rfl
    have hwt : ∀ {H : Hp} {b : Bool} {v σ : AV} {sz : Nat} {lo hi : Option AV} {H' : Hp}, sliceK sz (widen H b v) lo hi none (fun v => some (v, H)) = some (σ, H') → b = true → ∀ id ∈ leafIds v, (∃ s o n, v = .own id s o n) → id < H.length := by
      intro H b v σ sz lo hi H' h hb id hid ⟨s, o, n, hv⟩
      subst hv hb
      simp only [widen] at h
      split at h
      · rename_i hq; exact idx_lt hq
      · simp [sliceK] at h
    have hwn : ∀ {H : Hp} {b : Bool} {v : AV}, (¬ ∃ id s o n, v = .own id s o n ∧ b = true) → widen H b v = v := by
      intro H b v hn
      unfold widen
      split
      · rename_i a c d e; exact absurd ⟨_, _, _, _, rfl, rfl⟩ hn
      · rfl
    have hres : ∀ {H H2 : Hp} {v : AV} {sz : Nat} {lo hi mx : Option AV}, sliceK sz v lo hi mx (fun v => some (v, H)) = (sliceK sz v lo hi mx (fun v => some (v, H2))).bind fun p => some (p.1, H) := by
      intro H H2 v sz lo hi mx
      rw [sliceK_nat]; rfl
    have hres3 : ∀ {H H2 : Hp} {v m : AV} {lo hi : Option AV}, threeK v lo hi m (fun v => some (v, H)) = (threeK v lo hi m (fun v => some (v, H2))).bind fun p => some (p.1, H) := by
      intro H H2 v m lo hi
      rw [threeK_nat]; rfl
    simp only [opK]
    cases hd : (E.ti t).d with
    | slice e =>
      simp only []
      cases mx with
      | none =>
        simp only []
        constructor
        · intro H σ H' h
          have h0 := h
          rw [hres (H2 := H)] at h
          obtain ⟨p, hp, hq⟩ := Option.bind_eq_some_iff.1 h
          cases hq
          refine ⟨rfl, fun H2 hl => ?_⟩
          have hw2 : widen H (hi.map (opnd E ts)).isSome (opnd E ts x) = widen H2 (hi.map (opnd E ts)).isSome (opnd E ts x) := by
            by_cases hc : ∃ id s o n, opnd E ts x = .own id s o n ∧ (hi.map (opnd E ts)).isSome = true
            · obtain ⟨id, s, o, n, hv, hb⟩ := hc
              refine hww hl fun id' hid' => ?_
              have : id' = id := by rw [hv] at hid'; simpa [leafIds] using hid'
              subst this
              exact hwt h0 hb id' hid' ⟨s, o, n, hv⟩
            · rw [hwn hc, hwn hc]
          rw [← hw2, hres (H2 := H), hp]; rfl
        · intro H H2 σ H' h hl hb
          rw [← hww hl (hb x (by simp [Op.operands])).1, hres (H2 := H)] at h
          obtain ⟨p, hp, hq⟩ := Option.bind_eq_some_iff.1 h
          cases hq
          rw [hp]
          have hp0 := hp
          rw [hres (H2 := H)] at hp
          obtain ⟨q, hq, hr⟩ := Option.bind_eq_some_iff.1 hp
          cases hr; rfl
      | some m =>
        cases m with
        | const v =>
          simp only []
          constructor
          · intro H σ H' h
            have hp := h
            rw [hres (H2 := H)] at h
            obtain ⟨p, hp', hq⟩ := Option.bind_eq_some_iff.1 h
            cases hq
            refine ⟨rfl, fun H2 hl => ?_⟩
            rw [hres (H2 := H), hp']; rfl
          · intro H H2 σ H' h hl hb
            rw [hres (H2 := H2), h]; rfl
        | _ =>
          simp only []
          constructor
          · intro H σ H' h
            rw [hres3 (H2 := H)] at h
            obtain ⟨p, hp', hq⟩ := Option.bind_eq_some_iff.1 h
            cases hq
            refine ⟨rfl, fun H2 hl => ?_⟩
            rw [hres3 (H2 := H), hp']; rfl
          · intro H H2 σ H' h hl hb
            rw [hres3 (H2 := H2), h]; rfl
    | str =>
      rw [hd] at hk
      simp at hk
    | _ => refine ⟨fun _ _ _ h => ?_, fun _ _ _ _ h => ?_⟩ <;> cases h
  | binOp p q r y d =>
    rw [ho] at hk
    rcases kind_binOp (E := E) (a := p) (b := q) (c := r) (y := y) (d := d) with h' | h' <;> rw [h'] at hk <;> cases hk
  | _ => rw [ho] at hk; simp [kindOf] at hk

/-- kind 2 -/
theorem opStep_new {call : (g : FuncId) → List AV → Hp → Option (Ret E g)} {o : Oper} {ts : List AV} {σ : AV} {H' : Hp} (hk : kindOf E o.op = 2) (h : opStep E call o ts H = some (σ, H')) : HLe H H' := by
  unfold opStep at h
  cases ho : o.op with
  | alloc t =>
    simp only [ho, opK] at h
    split at h
    · cases h
    · split at h
      · cases h; exact .app _ _
      · cases h
  | box t x =>
    simp only [ho, opK] at h
    split at h
    · cases h
    · split at h
      · cases h; exact .app _ _
      · cases h
  | makeSlice t l c =>
    simp only [ho, opK] at h
    split at h
    · rename_i e k1 l k2 c h1 h2 h3
      cases hd : decide (0 ≤ l ∧ l ≤ c ∧ c < 4294967296) with
      | true => rw [hd] at h; cases h; exact .app _ _
      | false => rw [hd] at h; cases h
    · cases h
  | convert s d x =>
    simp only [ho, opK, convertK] at h
    split at h
    · cases h; exact .refl _
    · cases h; exact .refl _
    · split at h
      · cases h; exact .refl _
      · cases h
    · cases h
  | buildSlice t n p =>
    simp only [ho, opK] at h
    split at h
    · split at h
      · split at h
        · cases h; exact .app _ _
        · cases h; exact .lendAll _ _
      · cases h
    · cases h
  | call c =>
    rw [ho] at hk
    simp only [ho] at h
    simp only [kindOf] at hk
    cases hc : c.callee with
    | builtin b =>
      rw [hc] at hk
      cases b <;> simp at hk
    | invoke a b => simp only [hc] at h; cases h
    | value f =>
      simp only [hc] at h
      split at h
      · split at h
        · split at h
          · cases h
          · rename_i _ k' caps hfv _ gi hgi _ hi
            have ht : gi.take = false := by
              cases ht : gi.take with
              | false => rfl
              | true =>
                exfalso
                cases f with
                | func k2 =>
                  have : k2 = k' := by
                    have hfo : opnd E ts (.func k2) = .fn k2 [] := rfl
                    rw [hfo] at hfv; cases hfv; rfl
                  subst this
                  simp [hc, hgi, hi, ht] at hk
                | _ => simp [hc] at hk
            rw [ht] at h
            simp only [] at h
            split at h
            · obtain ⟨x, hx, hy⟩ := Option.bind_eq_some_iff.1 h
              cases hy
              refine HLe.trans (H2 := afterCall _ _ _ _) ?_ (.app _ _)
              unfold afterCall
              split
              · exact .lendAll _ _
              · exact .refl _
            · cases h
        · rename_i k' caps hfv _ hgi
          exfalso
          cases f with
          | func k2 =>
            have : k2 = k' := by
              have hfo : opnd E ts (.func k2) = .fn k2 [] := rfl
              rw [hfo] at hfv; cases hfv; rfl
            subst this
            simp [hc, hgi] at hk
          | _ => simp [hc] at hk
      · cases h
  | slice t x lo hi mx =>
    rw [ho] at hk
    simp only [kindOf] at hk
    split at hk <;> cases hk
  | binOp p q r y d =>
    rw [ho] at hk
    rcases kind_binOp (E := E) (a := p) (b := q) (c := r) (y := y) (d := d) with h' | h' <;> rw [h'] at hk <;> cases hk
  | _ => rw [ho] at hk; simp [kindOf] at hk
end
end Go.Proofs.YtjklgmflillagaaDoor.Ev
