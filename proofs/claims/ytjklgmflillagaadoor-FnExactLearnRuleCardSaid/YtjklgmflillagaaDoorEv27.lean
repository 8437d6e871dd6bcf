/- Operations that only look: what their order may be. -/
import Derived.Test.YtjklgmflillagaaDoorEv26
namespace Go.Proofs.YtjklgmflillagaaDoor.Ev
open Go Go.RowKit
set_option linter.unusedVariables false
set_option linter.unusedSimpArgs false

section
variable {α : Type} {P : Program} {E : Env} {B : Nat → Prop} {F : Fz} {g : List GE} {w : World} {H : Hp}

theorem collapse_noSl {H H2 : Hp} : (t : Ty) → (cs : List AV) → t.hasSl = false → collapse H t cs = collapse H2 t cs
  | .int k, cs, _ => by cases cs with
    | nil => rfl
    | cons v r => cases v <;> rfl
  | .bool, cs, _ => by cases cs with
    | nil => rfl
    | cons v r => cases v <;> rfl
  | .str, cs, _ => by cases cs with
    | nil => rfl
    | cons v r => cases v <;> rfl
  | .unit, cs, _ => by cases cs <;> rfl
  | .sl t, cs, h => by cases h
  | .st t, cs, h => by simp only [collapse]; exact collapse_noSl t cs h
  | .pair a b, cs, h => by
    simp only [Ty.hasSl, Bool.or_eq_false_iff] at h
    simp only [collapse]
    rw [collapse_noSl (H2 := H2) a cs h.1]
    split
    · rw [collapse_noSl (H2 := H2) b _ h.2]
    · rfl

theorem asTy_noSl {H H2 : Hp} {t : Ty} {v : AV} (h : t.hasSl = false) : asTy H t v = asTy H2 t v := by
  unfold asTy
  rw [collapse_noSl (H2 := H2) t _ h]
theorem partsTy_noSl {H H2 : Hp} {t : Ty} {ρ : Operand → AV} (h : t.hasSl = false) : ∀ l : List (Nat × Operand), partsTy H t ρ l = partsTy H2 t ρ l
  | [] => rfl
  | (i, x) :: r => by
    simp only [partsTy]
    rw [asTy_noSl (H2 := H2) h, partsTy_noSl (H2 := H2) h r]

theorem ownIds_noSl {H : Hp} : (t : Ty) → (cs : List AV) → (x : t.den) → (r : List AV) → t.hasSl = false → collapse H t cs = some (x, r) → ownIds cs = ownIds r
  | .int k, cs, x, r, _, h => by
    cases cs with
    | nil => cases h
    | cons v s =>
      cases v with
      | int k' y =>
        simp only [collapse] at h
        split at h
        · cases h; rfl
        · cases h
      | _ => cases h
  | .bool, cs, x, r, _, h => by
    cases cs with
    | nil => cases h
    | cons v s => cases v <;> first | (cases h; done) | (cases h; rfl)
  | .str, cs, x, r, _, h => by
    cases cs with
    | nil => cases h
    | cons v s => cases v <;> first | (cases h; done) | (cases h; rfl)
  | .unit, cs, x, r, _, h => by cases cs <;> (cases h; rfl)
  | .sl t, cs, x, r, h', h => by cases h'
  | .st t, cs, x, r, h', h => by simp only [collapse] at h; exact ownIds_noSl t cs x r h' h
  | .pair a b, cs, x, r, h', h => by
    simp only [Ty.hasSl, Bool.or_eq_false_iff] at h'
    simp only [collapse] at h
    split at h
    · rename_i y r1 h1
      split at h
      · rename_i z r2 h2
        cases h
        rw [ownIds_noSl a cs y r1 h'.1 h1, ownIds_noSl b r1 z _ h'.2 h2]
      · cases h
    · cases h
theorem ownIds_asTy {H : Hp} {t : Ty} {v : AV} {x : t.den} (h' : t.hasSl = false) (h : asTy H t v = some x) : ownIds (cellsOf v) = [] := by
  unfold asTy at h
  split at h
  · rename_i y _ h2
    exact ownIds_noSl t _ y [] h' h2
  · cases h
theorem ownIds_parts {H : Hp} {t : Ty} {ρ : Operand → AV} (h' : t.hasSl = false) : ∀ (l : List (Nat × Operand)) (ps : List (Nat × t.den)), partsTy H t ρ l = some ps → ownIds (l.flatMap fun p => cellsOf (ρ p.2)) = []
  | [], _, _ => rfl
  | (i, x) :: r, ps, h => by
    simp only [partsTy] at h
    split at h
    · rename_i v hv
      split at h
      · rename_i l hl
        simp only [List.flatMap_cons, ownIds_append, ownIds_asTy h' hv, ownIds_parts h' r l hl, List.nil_append]
      · cases h
    · cases h

/-! #### operands -/
theorem fillCells_congr {flds : List (Nat × Nat × Bool)} {ρ ρ' : Operand → AV} : ∀ (l : List (Nat × Operand)) (cs : List AV), (∀ y ∈ l.map (·.2), ρ y = ρ' y) → fillCells flds ρ l cs = fillCells flds ρ' l cs
  | [], _, _ => rfl
  | (i, x) :: r, cs, h => by
    simp only [fillCells]
    rw [h x (by simp)]
    split
    · split
      · exact fillCells_congr r _ fun y hy => h y (by simp at hy ⊢; exact .inr hy)
      · rfl
    · rfl
theorem partsTy_congr {t : Ty} {ρ ρ' : Operand → AV} : ∀ (l : List (Nat × Operand)), (∀ y ∈ l.map (·.2), ρ y = ρ' y) → partsTy H t ρ l = partsTy H t ρ' l
  | [], _ => rfl
  | (i, x) :: r, h => by
    simp only [partsTy]
    rw [h x (by simp), partsTy_congr r fun y hy => h y (by simp at hy ⊢; exact .inr hy)]
theorem optmap_congr {ρ ρ' : Operand → AV} (o : Option Operand) (h : ∀ y, o = some y → ρ y = ρ' y) : o.map ρ = o.map ρ' := by
  cases o with
  | none => rfl
  | some y => simp [h y rfl]

theorem opK_congr {op : Op} {ρ ρ' : Operand → AV} {K : AV → Hp → Option α} (h : ∀ y ∈ op.operands, ρ y = ρ' y) : opK E op ρ H K = opK E op ρ' H K := by
  cases op with
  | build t ps =>
    simp only [opK]
    rw [fillCells_congr ps.toList _ fun y hy => h y (by simpa [Op.operands] using hy)]
  | buildSlice t n ps =>
    have hp : ∀ y ∈ ps.toList.map (·.2), ρ y = ρ' y := fun y hy => h y (by simpa [Op.operands] using hy)
    have h2 : (ps.toList.flatMap fun p => cellsOf (ρ p.2)) = ps.toList.flatMap fun p => cellsOf (ρ' p.2) := by
      generalize ps.toList = l at hp
      induction l with
      | nil => rfl
      | cons q l ih => simp only [List.flatMap_cons, ih fun y hy => hp y (by simp at hy ⊢; exact .inr hy), hp q.2 (by simp)]
    simp only [opK, h2]
    split
    · rw [partsTy_congr ps.toList hp]
    · rfl
  | slice t x lo hi mx =>
    simp only [opK]
    rw [h x (by simp [Op.operands]), optmap_congr lo fun y hy => h y (by simp [Op.operands, hy]), optmap_congr hi fun y hy => h y (by simp [Op.operands, hy])]
    cases mx with
    | none => rfl
    | some m =>
      have hm := h m (by simp [Op.operands])
      cases m <;> simp only [hm]
  | makeFunc f first cap =>
    simp only [opK]
    have : cap.toList.map ρ = cap.toList.map ρ' := List.map_congr_left fun y hy => h y (by simp [Op.operands]; exact .inr (by simpa using hy))
    rw [this]
  | binOp op t x y yt =>
    have hx := h x (by simp [Op.operands])
    have hy := h y (by simp [Op.operands])
    simp only [opK]
    split
    · rw [hx]
    · rw [hx, hy]
  | _ => first | rfl | (simp [Op.operands] at h; simp [opK, h])

theorem opnd_put {ts : List AV} {d : Option Tmp} {v : AV} {y : Operand} (h : ∀ t, d = some t → y ≠ .tmp t) : opnd E (put ts d v) y = opnd E ts y := by
  cases d with
  | none => rfl
  | some d =>
    cases y with
    | tmp t =>
      have : d ≠ t := fun e => h d rfl (e ▸ rfl)
      simp only [opnd, put, List.getD]
      rw [List.getElem?_set_ne this]
    | _ => rfl

theorem opStep_congr {call : (g : FuncId) → List AV → Hp → Option (Ret E g)} {o : Oper} {ts ts' : List AV} (h : ∀ y ∈ o.op.operands, opnd E ts y = opnd E ts' y) : opStep E call o ts H = opStep E call o ts' H := by
  unfold opStep
  cases ho : o.op with
  | call c =>
    rw [ho] at h
    have ha : c.args.toList.map (opnd E ts) = c.args.toList.map (opnd E ts') := List.map_congr_left fun y hy => h y (by simp only [Op.operands, Call.operands, Array.mem_append]; exact .inr (by simpa using hy))
    simp only []
    cases hc : c.callee with
    | builtin b => simp only [ha]
    | value f =>
      have hf : opnd E ts f = opnd E ts' f := h f (by simp [Op.operands, Call.operands, hc])
      simp only [ha, hf]
    | invoke a b => rfl
  | _ => simp only []; exact opK_congr (by rw [← ho]; exact h)
end
end Go.Proofs.YtjklgmflillagaaDoor.Ev
