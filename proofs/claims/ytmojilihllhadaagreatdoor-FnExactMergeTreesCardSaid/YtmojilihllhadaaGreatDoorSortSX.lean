/- slices.Sort of texts: the contract at this seat. -/
import Derived.Test.YtmojilihllhadaaGreatDoorEvSo
import Derived.Test.YtmojilihllhadaaGreatDoorEv1
import Derived.Test.YtmojilihllhadaaGreatDoorSh
import Derived.Shelf.Sort.Plain
import Derived.Shelf.Slices.In.SortNone
import Derived.KernelRfl
set_option linter.unusedVariables false
set_option linter.unusedSimpArgs false
namespace Go.Proofs.YtmojilihllhadaaGreatDoor.Ev
open Go Go.Proofs Go.Sort Go.RowKit
theorem bsort_len (l : List ByteArray) : (bsort l).length = l.length := by unfold bsort; simp
theorem sortSWalk : SortSWalk Tryz.prog 209 where
  nil := fun p cap w => Any.slices_Sort_string_none Tryz.lays190 p cap w
  row := fun blk off cap l w hH hblk hsz => by
    have := Any.slices_Sort_string Tryz.lays190 blk off cap (l.map (·.data.toList)) w (holds_str hH) hblk (by simpa using hsz)
    rw [List.length_map] at this
    refine this.mono ?_
    rintro e w' ⟨he, n, os, hw⟩
    refine ⟨he, n, os, ?_⟩
    rw [hw, put_str]
    rfl
  len := bsort_len
theorem libSortS209 : XtOne Tryz.prog env 209 .sortS := sortS_one sortSWalk ⟨_, Tryz.func209, by kernel_rfl, by kernel_rfl⟩
end Go.Proofs.YtmojilihllhadaaGreatDoor.Ev
