/- strings.Trim: the library's contract at this seat. -/
import Derived.Test.YthooeghlplhlnaaGreatDoorSh
import Derived.Test.YthooeghlplhlnaaGreatDoorEv1
import Derived.Test.YthooeghlplhlnaaGreatDoorEvS
import Derived.KernelRfl
namespace Go.Proofs.YthooeghlplhlnaaGreatDoor.Ev
open Go Go.Proofs
theorem libTrim : XtOne Tryz.prog env 83 (.lib .trim) :=
  trim_one (fun s c w h1 h2 h3 => Any.strings_Trim_laid Tryz.lays160 (by kernel_rfl) s c w h1 h2 h3) ⟨_, Tryz.func83, by kernel_rfl, by kernel_rfl⟩
end Go.Proofs.YthooeghlplhlnaaGreatDoor.Ev
