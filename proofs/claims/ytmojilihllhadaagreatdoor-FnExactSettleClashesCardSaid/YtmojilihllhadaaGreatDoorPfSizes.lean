/- Sizes of entries. -/
import Derived.Test.YtmojilihllhadaaGreatDoorPfBase
namespace Go.Proofs.YtmojilihllhadaaGreatDoor.Ev
open Go

theorem good_size {l : List T_Entry.den} (h : bulk (.sl T_Entry) l ≤ 1048576) : ∀ e ∈ l, (e.1 : ByteArray).size ≤ 1048576 := by
  intro e he
  have h2 := bulk_mem (t := T_Entry) he
  have h3 : bulk T_Entry e = (e.1 : ByteArray).size + (0 + (0 + ((e.2.2.2.1 : ByteArray).size + 0))) := rfl
  have h6 : bulk (.sl T_Entry) l = l.length + (l.map (bulk T_Entry)).sum := rfl
  omega
end Go.Proofs.YtmojilihllhadaaGreatDoor.Ev
