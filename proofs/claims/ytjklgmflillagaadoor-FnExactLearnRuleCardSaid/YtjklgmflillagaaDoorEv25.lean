/- What an operation yields does not hang on what comes behind it. -/
import Derived.Test.YtjklgmflillagaaDoorEv19
namespace Go.Proofs.YtjklgmflillagaaDoor.Ev
open Go Go.RowKit
set_option linter.unusedVariables false
set_option linter.unusedSimpArgs false

section
variable {α β : Type} {E : Env} {H : Hp}

theorem cond_nat {b : Bool} {x y : Option α} {f : α → Option β} : (cond b x y).bind f = cond b (x.bind f) (y.bind f) := by cases b <;> rfl

theorem intOp_nat {op : BinOp} {k : IntKind} {a b : Int} {K : AV → Option α} {f : α → Option β} : (intOp op k a b K).bind f = intOp op k a b (fun v => (K v).bind f) := by
  cases op <;> simp only [intOp, cond_nat, Option.bind_none]
theorem strOp_nat {op : BinOp} {a b : ByteArray} {K : AV → Option α} {f : α → Option β} : (strOp op a b K).bind f = strOp op a b (fun v => (K v).bind f) := by
  cases op <;> simp only [strOp, cond_nat, Option.bind_none]
theorem binOpK_nat {op : BinOp} {t : TypeId} {x y : AV} {K : AV → Option α} {f : α → Option β} : (binOpK E op t x y K).bind f = binOpK E op t x y (fun v => (K v).bind f) := by
  unfold binOpK
  split
  · split
    · simp only [cond_nat, Option.bind_none]
    · simp only [cond_nat, Option.bind_none]
    · split
      · exact intOp_nat
      · rfl
  · exact strOp_nat
  · split <;> rfl
  · rfl
theorem boundsK_nat {n : Nat} {lo hi : Option AV} {K : Nat → Nat → Option α} {f : α → Option β} : (boundsK n lo hi K).bind f = boundsK n lo hi (fun a b => (K a b).bind f) := by
  unfold boundsK
  split
  · split
    · rfl
    · simp only [cond_nat, Option.bind_none]
    · rfl
  · simp only [cond_nat, Option.bind_none]
    congr 1
    split
    · rfl
    · simp only [cond_nat, Option.bind_none]
    · rfl
  · rfl
theorem sliceK_nat {sz : Nat} {x : AV} {lo hi mx : Option AV} {K : AV → Option α} {f : α → Option β} : (sliceK sz x lo hi mx K).bind f = sliceK sz x lo hi mx (fun v => (K v).bind f) := by
  unfold sliceK
  split
  · split
    · split <;> rfl
    · rfl
  · rfl
  · split
    · split
      · exact boundsK_nat
      · rfl
    · exact boundsK_nat
    · split
      · exact boundsK_nat
      · rfl
    · split
      · exact boundsK_nat
      · rfl
    · rfl
theorem idxK_nat {sz : Nat} {x : AV} {i : Int} {K : AV → Option α} {f : α → Option β} : (idxK sz x i K).bind f = idxK sz x i (fun v => (K v).bind f) := by
  unfold idxK
  split <;> first
    | rfl
    | (split
       · simp only [cond_nat, Option.bind_none]
       · rfl)
theorem convertK_nat {s d : TypeId} {x : AV} {K : AV → Hp → Option α} {f : α → Option β} : (convertK E s d x H K).bind f = convertK E s d x H (fun v H => (K v H).bind f) := by
  unfold convertK
  split
  · rfl
  · rfl
  · split <;> rfl
  · rfl

theorem threeK_nat {x mx : AV} {lo hi : Option AV} {K : AV → Option α} {f : α → Option β} : (threeK x lo hi mx K).bind f = threeK x lo hi mx (fun v => (K v).bind f) := by
  unfold threeK
  split
  · simp only [cond_nat, Option.bind_none]
  · simp only [cond_nat, Option.bind_none]
  · rfl
theorem appendK_nat {t : Ty} {s x : AV} {K : AV → Hp → Option α} {f : α → Option β} : (appendK t s x H K).bind f = appendK t s x H (fun v H => (K v H).bind f) := by
  unfold appendK
  split
  · rfl
  · split
    · simp only [cond_nat, Option.bind_none]
    · split
      · split
        · simp only [cond_nat, Option.bind_none]
        · rfl
      · rfl
    · split
      · split
        · simp only [cond_nat, Option.bind_none]
        · rfl
      · rfl
    · rfl
theorem clearK_nat {t : Ty} {x : AV} {K : AV → Hp → Option α} {f : α → Option β} : (clearK t x H K).bind f = clearK t x H (fun v H => (K v H).bind f) := by
  unfold clearK
  split
  · rfl
  · split
    · split <;> rfl
    · rfl
  · split
    · split <;> rfl
    · rfl
  · rfl
theorem minMaxK_nat {mx : Bool} {vs : List AV} {K : AV → Option α} {f : α → Option β} : (minMaxK mx vs K).bind f = minMaxK mx vs (fun v => (K v).bind f) := by
  unfold minMaxK
  split
  · split <;> rfl
  · rfl
theorem builtinK_nat {b : Builtin} {as : Array TypeId} {vs : List AV} {K : AV → Hp → Option α} {f : α → Option β} : (builtinK E b as vs H K).bind f = builtinK E b as vs H (fun v H => (K v H).bind f) := by
  unfold builtinK
  split
  · split
    · split
      · split
        · split <;> rfl
        · split <;> rfl
        · rfl
      · rfl
    · rfl
  · split
    · split
      · exact appendK_nat
      · rfl
    · rfl
  · split
    · split
      · exact clearK_nat
      · rfl
    · rfl
  · exact minMaxK_nat
  · exact minMaxK_nat
  · rfl
theorem opK_nat {o : Op} (hn : nilOp o = false) {ρ : Operand → AV} {K : AV → Hp → Option α} {f : α → Option β} : (opK E o ρ H K).bind f = opK E o ρ H (fun v H => (K v H).bind f) := by
  cases o with
  | pick c a b =>
    simp only [opK]
    split
    · simp only [cond_nat]
    · rfl
  | binOp op t x y yt =>
    simp only [opK]
    split
    · cases hn
    · exact binOpK_nat
  | convert s d x => simp only [opK]; exact convertK_nat
  | slice t x lo hi mx =>
    simp only [opK]
    split
    · split
      · exact sliceK_nat
      · exact sliceK_nat
      · exact threeK_nat
    · split
      · exact boundsK_nat
      · rfl
    · rfl
  | indexAddr t x i =>
    simp only [opK]
    split
    · exact idxK_nat
    · rfl
  | index t x i =>
    simp only [opK]
    split
    · simp only [cond_nat, Option.bind_none]
    · rfl
  | makeSlice t l c =>
    simp only [opK]
    split
    · simp only [cond_nat, Option.bind_none]
    · rfl
  | _ => simp only [opK] <;> (repeat' split) <;> rfl
end
end Go.Proofs.YtjklgmflillagaaDoor.Ev
