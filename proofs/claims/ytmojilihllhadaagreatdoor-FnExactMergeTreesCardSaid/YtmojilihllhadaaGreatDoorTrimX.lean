/- strings.Trim: the library's contract at this seat. -/
import Derived.Test.YtmojilihllhadaaGreatDoorSh
import Derived.Test.YtmojilihllhadaaGreatDoorEv1
import Derived.Test.YtmojilihllhadaaGreatDoorEvS
import Derived.KernelRfl
namespace Go.Proofs.YtmojilihllhadaaGreatDoor.Ev
open Go Go.Proofs
theorem libTrim : XtOne Tryz.prog env 221 (.lib .trim) :=
  trim_one (fun s c w h1 h2 h3 => Any.strings_Trim_laid Tryz.lays160 (by kernel_rfl) s c w h1 h2 h3) ⟨_, Tryz.func221, by kernel_rfl, by kernel_rfl⟩
end Go.Proofs.YtmojilihllhadaaGreatDoor.Ev
