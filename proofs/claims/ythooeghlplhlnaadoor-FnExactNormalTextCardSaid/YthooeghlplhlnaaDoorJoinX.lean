/- strings.Join: the library's contract at this seat. -/
import Derived.Test.YthooeghlplhlnaaDoorSh
import Derived.Test.YthooeghlplhlnaaDoorEv1
import Derived.Test.YthooeghlplhlnaaDoorEvS
import Derived.Shelf.Strings.OnBuilder
import Derived.KernelRfl
namespace Go.Proofs.YthooeghlplhlnaaDoor.Ev
open Go Go.Proofs
theorem libJoin : XtOne Tryd.prog env 58 .join :=
  join_one ⟨fun a c sep w => Any.strings_Join_none Tryd.lays156 Tryd.Builder_Extra_156 a c sep w, fun bk o c xs sep w h1 h2 h3 h4 h5 => Any.strings_Join Tryd.lays156 Tryd.Builder_Extra_156 bk o c xs sep w h1 h2 h3 h4 h5⟩ ⟨_, Tryd.func58, by kernel_rfl, by kernel_rfl⟩
end Go.Proofs.YthooeghlplhlnaaDoor.Ev
