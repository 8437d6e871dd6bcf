/- strings.Repeat: the library's contract at this seat. -/
import Derived.Test.YtmojilihllhadaaGreatDoorSh
import Derived.Test.YtmojilihllhadaaGreatDoorEv1
import Derived.Test.YtmojilihllhadaaGreatDoorEvS
import Derived.KernelRfl
namespace Go.Proofs.YtmojilihllhadaaGreatDoor.Ev
open Go Go.Proofs
theorem libRep : XtOne Tryz.prog env 168 (.lib .rep) :=
  rep_one (fun s c w h1 h2 => Any.strings_Repeat Tryz.lays105 Tryz.Builder_Extra_105 s c w h1 h2) ⟨_, Tryz.func168, by kernel_rfl, by kernel_rfl⟩
end Go.Proofs.YtmojilihllhadaaGreatDoor.Ev
