/- strings.Join: the library's contract at this seat. -/
import Derived.Test.YthooeghlplhlnaaGreatDoorSh
import Derived.Test.YthooeghlplhlnaaGreatDoorEv1
import Derived.Test.YthooeghlplhlnaaGreatDoorEvS
import Derived.Shelf.Strings.OnBuilder
import Derived.KernelRfl
namespace Go.Proofs.YthooeghlplhlnaaGreatDoor.Ev
open Go Go.Proofs
theorem libJoin : XtOne Tryz.prog env 33 .join :=
  join_one ⟨fun a c sep w => Any.strings_Join_none Tryz.lays156 Tryz.Builder_Extra_156 a c sep w, fun bk o c xs sep w h1 h2 h3 h4 h5 => Any.strings_Join Tryz.lays156 Tryz.Builder_Extra_156 bk o c xs sep w h1 h2 h3 h4 h5⟩ ⟨_, Tryz.func33, by kernel_rfl, by kernel_rfl⟩
end Go.Proofs.YthooeghlplhlnaaGreatDoor.Ev
