/- codeIf. -/
import Derived.Test.YtmojilihllhadaaGreatDoorPfTf
namespace Go.Proofs.YtmojilihllhadaaGreatDoor.Ev
open Go
theorem codeIf_s (c : Bool) (x : Int) : impl_codeIf.s c x = some (bif c then x else 0) := by
  rw [impl_codeIf.e]
  cases c <;> rfl
end Go.Proofs.YtmojilihllhadaaGreatDoor.Ev
