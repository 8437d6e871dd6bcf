/- slices.Insert: the contract at this seat's function. -/
import Derived.Test.YthooeghlplhlnaaDoorInsW88
import Derived.Test.YthooeghlplhlnaaDoorEvS
import Derived.KernelRfl
namespace Go.Proofs.YthooeghlplhlnaaDoor.Ev.Ins88
open Go Go.Proofs
theorem facts : Facts Tryd.prog :=
  { mixed := by kernel_rfl, f := Tryd.func88, t3 := by kernel_rfl, t4 := by kernel_rfl, tS := by kernel_rfl
    a3 := fun w => congrFun (show (isAgg 3).run Tryd.prog = fun w => .ok false w by kernel_rfl) w
    z3 := fun w => congrFun (show (Go.sizeOf 3).run Tryd.prog = fun w => .ok 1 w by kernel_rfl) w
    v3 := fun w => congrFun (show (zeroValue 3).run Tryd.prog = fun w => .ok (Value.int IntKind.i64 0) w by kernel_rfl) w
    a4 := fun w => congrFun (show (isAgg 4).run Tryd.prog = fun w => .ok false w by kernel_rfl) w
    z4 := fun w => congrFun (show (Go.sizeOf 4).run Tryd.prog = fun w => .ok 1 w by kernel_rfl) w
    v4 := fun w => congrFun (show (zeroValue 4).run Tryd.prog = fun w => .ok (Value.bool false) w by kernel_rfl) w
    aS := fun w => congrFun (show (isAgg 24).run Tryd.prog = fun w => .ok false w by kernel_rfl) w
    zS := fun w => congrFun (show (Go.sizeOf 24).run Tryd.prog = fun w => .ok 1 w by kernel_rfl) w
    vS := fun w => congrFun (show (zeroValue 24).run Tryd.prog = fun w => .ok (Value.slice none 0 0) w by kernel_rfl) w
    zE := fun w => congrFun (show (Go.sizeOf 36).run Tryd.prog = fun w => .ok 2 w by kernel_rfl) w }
theorem walk : InsWalk Tryd.prog 88 24 126 2 := ⟨@w_end _ facts, @w_shift _ facts, @w_grow _ facts⟩
theorem one {E : Env} : XtOne Tryd.prog E 88 (.insert (.st (.pair .str (.pair .str .unit)))) :=
  insert_one (S := 24) (ov := 126) (e := 36) (tR := 4) (fun h => by cases h) walk (by kernel_rfl) (by kernel_rfl) (by kernel_rfl) (by decide) ⟨_, Tryd.func126, by kernel_rfl, by kernel_rfl, by kernel_rfl, by kernel_rfl⟩ ⟨_, Tryd.func88, by kernel_rfl, by kernel_rfl⟩
end Go.Proofs.YthooeghlplhlnaaDoor.Ev.Ins88
