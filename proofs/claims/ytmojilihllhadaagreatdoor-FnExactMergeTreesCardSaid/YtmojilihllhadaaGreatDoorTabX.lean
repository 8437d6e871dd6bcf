/- The tables of common lines: the contracts at this seat. -/
import Derived.Test.YtmojilihllhadaaGreatDoorTabS
import Derived.Test.YtmojilihllhadaaGreatDoorEv1
import Derived.Test.YtmojilihllhadaaGreatDoorEvS
import Derived.KernelRfl
namespace Go.Proofs.YtmojilihllhadaaGreatDoor.Ev
open Go Go.Proofs

theorem lcs_tab (xs ys : List ByteArray) (h : xs.length ≤ 50000) : Tab.Lcs (fun i j => ((lcsN (xs.drop i) (ys.drop j) : Nat) : Int)) xs.length ys.length (fun r => xs.getD r noS) (fun r => ys.getD r noS) := by
  have hd : ∀ (l : List ByteArray) (i : Nat) (h : i < l.length), l.getD i noS = l[i] := fun l i h => by simp [List.getD, h]
  refine ⟨fun i j => by omega, fun i j => ?_, fun j => ?_, fun i => ?_, fun i j hi hj => ?_, fun i j hi hj => ?_⟩
  · have h1 := lcs_le (xs.drop i) (ys.drop j)
    have h2 : (xs.drop i).length ≤ xs.length := by simp
    show ((lcsN (xs.drop i) (ys.drop j) : Nat) : Int) ≤ 100000
    omega
  · show ((lcsN (xs.drop xs.length) (ys.drop j) : Nat) : Int) = 0
    rw [List.drop_length]
    simp [lcsN]
  · show ((lcsN (xs.drop i) (ys.drop ys.length) : Nat) : Int) = 0
    rw [List.drop_length]
    cases xs.drop i <;> simp [lcsN]
  · exact (lcs_step xs ys hi hj).2
  · have := (lcs_step xs ys hi hj).1
    simp only [hd _ _ hi, hd _ _ hj]
    exact this
theorem cells_of {b o : Nat} {xs : List ByteArray} {w : World} (h : ∀ (r : Nat) x, xs[r]? = some x → w.cell? ⟨b, o + r, none⟩ = some (.string x)) : ∀ r, r < xs.length → w.cell? ⟨b, o + r, none⟩ = some (.string (xs.getD r noS)) := by
  intro r hr
  refine h r _ ?_
  rw [List.getElem?_eq_getElem hr]
  simp [List.getD, hr]
theorem since_news {w w' : World} (h : w.Since w.heap.size w') : News w w' := ⟨h.os, h.tape, h.output, h.size, h.block⟩
theorem tabI_walk : TabWalk Tryz.prog 302 := ⟨fun A1 A2 b1 o1 b2 o2 c1 c2 xs ys w hA1 hA2 h1 h2 k1 k2 =>
  (Tab.commons_walk A1 A2 b1 o1 b2 o2 xs.length c1 ys.length c2 _ _ _ w hA1 hA2 h1 h2 (cells_of k1) (cells_of k2) (lcs_tab xs ys h1)).mono fun e w' ⟨he, ht⟩ =>
    have hs := ht.toS
    ⟨w.heap.size, xs.length + 1, fun j => w.heap.size + 1 + j, he, Nat.le_refl _, since_news hs.since, Nat.le_refl _, fun i hi => ⟨hs.top i (by omega), by show w.heap.size ≤ w.heap.size + 1 + i; omega, fun j hj => (hs.rows i (by omega)).cell (by omega)⟩⟩⟩
theorem tabS_walk : TabWalk Tryz.prog 315 := ⟨fun A1 A2 b1 o1 b2 o2 c1 c2 xs ys w hA1 hA2 h1 h2 k1 k2 =>
  (Tab.table_walk A1 A2 b1 o1 b2 o2 xs.length c1 ys.length c2 _ _ _ w hA1 hA2 h1 h2 (cells_of k1) (cells_of k2) (lcs_tab xs ys h1)).mono fun e w' ⟨g, cap, R, he, hcap, hs⟩ =>
    ⟨g, cap, R, he, hcap, since_news hs.since, hs.gl, fun i hi => ⟨hs.top i (by omega), hs.low i (by omega), fun j hj => (hs.rows i (by omega)).cell (by omega)⟩⟩⟩
theorem libTabI : XtOne Tryz.prog env 302 .table := table_one tabI_walk ⟨_, Tryz.func302, by kernel_rfl, by kernel_rfl⟩
theorem libTabS : XtOne Tryz.prog env 315 .table := table_one tabS_walk ⟨_, Tryz.func315, by kernel_rfl, by kernel_rfl⟩
end Go.Proofs.YtmojilihllhadaaGreatDoor.Ev
