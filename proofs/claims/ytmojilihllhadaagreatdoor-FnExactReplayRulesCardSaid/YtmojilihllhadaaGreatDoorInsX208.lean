/- slices.Insert: the contract at this seat's function. -/
import Derived.Test.YtmojilihllhadaaGreatDoorInsW208
import Derived.Test.YtmojilihllhadaaGreatDoorEvS
import Derived.KernelRfl
namespace Go.Proofs.YtmojilihllhadaaGreatDoor.Ev.Ins208
open Go Go.Proofs
theorem facts : Facts Tryz.prog :=
  { mixed := by kernel_rfl, f := Tryz.func208, t3 := by kernel_rfl, t4 := by kernel_rfl, tS := by kernel_rfl
    a3 := fun w => congrFun (show (isAgg 3).run Tryz.prog = fun w => .ok false w by kernel_rfl) w
    z3 := fun w => congrFun (show (Go.sizeOf 3).run Tryz.prog = fun w => .ok 1 w by kernel_rfl) w
    v3 := fun w => congrFun (show (zeroValue 3).run Tryz.prog = fun w => .ok (Value.int IntKind.i64 0) w by kernel_rfl) w
    a4 := fun w => congrFun (show (isAgg 4).run Tryz.prog = fun w => .ok false w by kernel_rfl) w
    z4 := fun w => congrFun (show (Go.sizeOf 4).run Tryz.prog = fun w => .ok 1 w by kernel_rfl) w
    v4 := fun w => congrFun (show (zeroValue 4).run Tryz.prog = fun w => .ok (Value.bool false) w by kernel_rfl) w
    aS := fun w => congrFun (show (isAgg 31).run Tryz.prog = fun w => .ok false w by kernel_rfl) w
    zS := fun w => congrFun (show (Go.sizeOf 31).run Tryz.prog = fun w => .ok 1 w by kernel_rfl) w
    vS := fun w => congrFun (show (zeroValue 31).run Tryz.prog = fun w => .ok (Value.slice none 0 0) w by kernel_rfl) w
    zE := fun w => congrFun (show (Go.sizeOf 92).run Tryz.prog = fun w => .ok 4 w by kernel_rfl) w }
theorem walk : InsWalk Tryz.prog 208 31 241 4 := ⟨@w_end _ facts, @w_shift _ facts, @w_grow _ facts⟩
theorem one {E : Env} : XtOne Tryz.prog E 208 (.insert (.st (.pair .str (.pair (.int .i64) (.pair (.int .i64) (.pair .str .unit)))))) :=
  insert_one (S := 31) (ov := 241) (e := 92) (tR := 4) (fun h => by cases h) walk (by kernel_rfl) (by kernel_rfl) (by kernel_rfl) (by decide) ⟨_, Tryz.func241, by kernel_rfl, by kernel_rfl, by kernel_rfl, by kernel_rfl⟩ ⟨_, Tryz.func208, by kernel_rfl, by kernel_rfl⟩
end Go.Proofs.YtmojilihllhadaaGreatDoor.Ev.Ins208
