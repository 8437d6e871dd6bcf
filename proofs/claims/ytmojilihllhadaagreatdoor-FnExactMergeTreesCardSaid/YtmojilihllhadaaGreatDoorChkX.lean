/- (*strings.Builder).copyCheck: the library's contract at this seat. -/
import Derived.Test.YtmojilihllhadaaGreatDoorSh
import Derived.Test.YtmojilihllhadaaGreatDoorEv1
import Derived.Test.YtmojilihllhadaaGreatDoorEvS
import Derived.Shelf.Strings.Builder1
import Derived.KernelRfl
namespace Go.Proofs.YtmojilihllhadaaGreatDoor.Ev
open Go Go.Proofs
theorem chkL : Lays.n240 Tryz.prog Tryz.lays165_ren := { Tryz.lays165 with }
theorem chkX : Builder.X72 Tryz.prog Tryz.lays165_ren where
  sizeBuilder := by kernel_rfl
  liesBuilder := by kernel_rfl
theorem libChk : XtOne Tryz.prog env 231 (.chk 186) :=
  chk_one ⟨fun b w h1 h2 h3 => Any.Builder_copyCheck_fresh chkL chkX b w h1 h2 h3, fun b w h => Any.Builder_copyCheck_used chkL chkX b w h⟩ ⟨_, Tryz.func231, by kernel_rfl, by kernel_rfl⟩
end Go.Proofs.YtmojilihllhadaaGreatDoor.Ev
