/- strings.Repeat: the library's contract at this seat. -/
import Derived.Test.YthooeghlplhlnaaDoorSh
import Derived.Test.YthooeghlplhlnaaDoorEv1
import Derived.Test.YthooeghlplhlnaaDoorEvS
import Derived.KernelRfl
namespace Go.Proofs.YthooeghlplhlnaaDoor.Ev
open Go Go.Proofs
theorem libRep : XtOne Tryd.prog env 145 (.lib .rep) :=
  rep_one (fun s c w h1 h2 => Any.strings_Repeat Tryd.lays105 Tryd.Builder_Extra_105 s c w h1 h2) ⟨_, Tryd.func145, by kernel_rfl, by kernel_rfl⟩
end Go.Proofs.YthooeghlplhlnaaDoor.Ev
