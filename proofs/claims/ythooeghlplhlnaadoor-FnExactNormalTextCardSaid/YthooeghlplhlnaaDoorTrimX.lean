/- strings.Trim: the library's contract at this seat. -/
import Derived.Test.YthooeghlplhlnaaDoorSh
import Derived.Test.YthooeghlplhlnaaDoorEv1
import Derived.Test.YthooeghlplhlnaaDoorEvS
import Derived.KernelRfl
namespace Go.Proofs.YthooeghlplhlnaaDoor.Ev
open Go Go.Proofs
theorem libTrim : XtOne Tryd.prog env 182 (.lib .trim) :=
  trim_one (fun s c w h1 h2 h3 => Any.strings_Trim_laid Tryd.lays160 (by kernel_rfl) s c w h1 h2 h3) ⟨_, Tryd.func182, by kernel_rfl, by kernel_rfl⟩
end Go.Proofs.YthooeghlplhlnaaDoor.Ev
