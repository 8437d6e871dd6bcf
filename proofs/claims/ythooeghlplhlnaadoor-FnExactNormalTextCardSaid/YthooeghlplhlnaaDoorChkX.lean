/- (*strings.Builder).copyCheck: the library's contract at this seat. -/
import Derived.Test.YthooeghlplhlnaaDoorSh
import Derived.Test.YthooeghlplhlnaaDoorEv1
import Derived.Test.YthooeghlplhlnaaDoorEvS
import Derived.Shelf.Strings.Builder1
import Derived.KernelRfl
namespace Go.Proofs.YthooeghlplhlnaaDoor.Ev
open Go Go.Proofs
theorem chkL : Lays.n240 Tryd.prog Tryd.lays165_ren := { Tryd.lays165 with }
theorem chkX : Builder.X72 Tryd.prog Tryd.lays165_ren where
  sizeBuilder := by kernel_rfl
  liesBuilder := by kernel_rfl
theorem libChk : XtOne Tryd.prog env 100 (.chk 90) :=
  chk_one ⟨fun b w h1 h2 h3 => Any.Builder_copyCheck_fresh chkL chkX b w h1 h2 h3, fun b w h => Any.Builder_copyCheck_used chkL chkX b w h⟩ ⟨_, Tryd.func100, by kernel_rfl, by kernel_rfl⟩
end Go.Proofs.YthooeghlplhlnaaDoor.Ev
