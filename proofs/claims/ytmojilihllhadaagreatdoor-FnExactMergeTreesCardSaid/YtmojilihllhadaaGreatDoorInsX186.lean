/- slices.Insert: the contract at this seat's function. -/
import Derived.Test.YtmojilihllhadaaGreatDoorInsW186
import Derived.Test.YtmojilihllhadaaGreatDoorEvS
import Derived.KernelRfl
namespace Go.Proofs.YtmojilihllhadaaGreatDoor.Ev.Ins186
open Go Go.Proofs
theorem facts : Facts Tryz.prog :=
  { mixed := by kernel_rfl, f := Tryz.func186, t3 := by kernel_rfl, t4 := by kernel_rfl, tS := by kernel_rfl
    a3 := fun w => congrFun (show (isAgg 3).run Tryz.prog = fun w => .ok false w by kernel_rfl) w
    z3 := fun w => congrFun (show (Go.sizeOf 3).run Tryz.prog = fun w => .ok 1 w by kernel_rfl) w
    v3 := fun w => congrFun (show (zeroValue 3).run Tryz.prog = fun w => .ok (Value.int IntKind.i64 0) w by kernel_rfl) w
    a4 := fun w => congrFun (show (isAgg 4).run Tryz.prog = fun w => .ok false w by kernel_rfl) w
    z4 := fun w => congrFun (show (Go.sizeOf 4).run Tryz.prog = fun w => .ok 1 w by kernel_rfl) w
    v4 := fun w => congrFun (show (zeroValue 4).run Tryz.prog = fun w => .ok (Value.bool false) w by kernel_rfl) w
    aS := fun w => congrFun (show (isAgg 29).run Tryz.prog = fun w => .ok false w by kernel_rfl) w
    zS := fun w => congrFun (show (Go.sizeOf 29).run Tryz.prog = fun w => .ok 1 w by kernel_rfl) w
    vS := fun w => congrFun (show (zeroValue 29).run Tryz.prog = fun w => .ok (Value.slice none 0 0) w by kernel_rfl) w
    zE := fun w => congrFun (show (Go.sizeOf 90).run Tryz.prog = fun w => .ok 3 w by kernel_rfl) w }
theorem walk : InsWalk Tryz.prog 186 29 233 3 := ⟨@w_end _ facts, @w_shift _ facts, @w_grow _ facts⟩
theorem one {E : Env} : XtOne Tryz.prog E 186 (.insert (.st (.pair .str (.pair (.int .i64) (.pair .str .unit))))) :=
  insert_one (S := 29) (ov := 233) (e := 90) (tR := 4) (fun h => by cases h) walk (by kernel_rfl) (by kernel_rfl) (by kernel_rfl) (by decide) ⟨_, Tryz.func233, by kernel_rfl, by kernel_rfl, by kernel_rfl, by kernel_rfl⟩ ⟨_, Tryz.func186, by kernel_rfl, by kernel_rfl⟩
end Go.Proofs.YtmojilihllhadaaGreatDoor.Ev.Ins186
