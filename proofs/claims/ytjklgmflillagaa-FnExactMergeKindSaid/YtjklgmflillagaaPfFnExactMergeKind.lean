/- The pure statement of the law FnExactMergeKind: both tell the same kind. -/
import Derived.Test.YtjklgmflillagaaQFnExactMergeKind
import Derived.Test.YtjklgmflillagaaPure
namespace Go.Proofs.Ytjklgmflillagaa.fnExactMergeKindRow
open Go.RowKit Go.Proofs.YtjklgmflillagaaW.PrintWords Go.Proofs.Ytjklgmflillagaa.Pr Go.Proofs.Ytjklgmflillagaa.Op Go.Proofs.Ytjklgmflillagaa.Pure

theorem szFile (x : ByteArray) (m : Int) (y : ByteArray) (hx : x.size ≤ maxLen) (hy : y.size ≤ maxLen) (a : Int) (h0 : 0 ≤ a) (h1 : a ≤ 1048576) : ∃ r, laws_szFile.f x m y a = some r ∧ r ≤ a := by
  have : maxLen = 9223372036854775807 := rfl
  unfold laws_szFile.f
  rw [wrap_id (x := a - (x.size : Int)) (by omega) (by omega)]
  by_cases c : a - (x.size : Int) < 0
  · exact ⟨-1, if_pos c, by omega⟩
  · rw [if_neg c, wrap_id (by omega) (by omega)]
    by_cases c' : a - (x.size : Int) - (y.size : Int) < 0
    · exact ⟨-1, if_pos c', by omega⟩
    · exact ⟨_, if_neg c', by omega⟩

theorem toFile (x : ByteArray) (m : Int) (y : ByteArray) : laws_toFile.f x m y = some (x, m, y) := rfl

theorem none_not (x : ByteArray) (m : Int) (y : ByteArray) : (!x.toList.isEmpty || (!(m == 0) || (!y.toList.isEmpty))) = !(x.toList.isEmpty && (m == 0 && (y.toList.isEmpty))) := by
  simp

theorem sameKind (a0 : ByteArray) (a1 : Int) (a2 : ByteArray) (b0 : ByteArray) (b1 : Int) (b2 : ByteArray) (c0 : ByteArray) (c1 : Int) (c2 : ByteArray) :
    ∃ r, spec_MergeKind.f a0 a1 a2 b0 b1 b2 c0 c1 c2 = some r ∧ impl_MergeKind.f a0 a1 a2 b0 b1 b2 c0 c1 c2 = some r := by
  unfold spec_MergeKind.f impl_MergeKind.f impl_isNone.f
  simp only [none_not, Option.bind_some]
  split
  · exact ⟨_, rfl, rfl⟩
  split
  · exact ⟨_, rfl, rfl⟩
  split
  · exact ⟨_, rfl, rfl⟩
  cases (b0.toList.isEmpty && (b1 == 0 && b2.toList.isEmpty)) <;> cases (c0.toList.isEmpty && (c1 == 0 && c2.toList.isEmpty)) <;> exact ⟨_, rfl, rfl⟩

theorem pure_holds : Pure := by
  intro a0 a1 a2 b0 b1 b2 c0 c1 c2 ga0 _ ga2 gb0 _ gb2 gc0 _ gc2
  refine Ev.rounds ?_
  unfold laws_FnExactMergeKind.f
  obtain ⟨r, hr, h1⟩ := szFile a0 a1 a2 ga0 ga2 1048576 (by omega) (by omega)
  refine Ev.call hr ?_
  by_cases c : r < 0
  · exact Ev.pos c (Ev.now _)
  refine Ev.neg c (Ev.step (fun k => by rw [laws_FnExactMergeKind.j0]) ?_)
  obtain ⟨r2, hr2, h2⟩ := szFile b0 b1 b2 gb0 gb2 r (by omega) (by omega)
  refine Ev.call hr2 ?_
  by_cases c : r2 < 0
  · exact Ev.pos c (Ev.now _)
  refine Ev.neg c (Ev.step (fun k => by rw [laws_FnExactMergeKind.j1]) ?_)
  obtain ⟨r3, hr3, h3⟩ := szFile c0 c1 c2 gc0 gc2 r2 (by omega) (by omega)
  refine Ev.call hr3 ?_
  by_cases c : r3 < 0
  · exact Ev.pos c (Ev.now _)
  refine Ev.neg c (Ev.step (fun k => by rw [laws_FnExactMergeKind.j2]) ?_)
  obtain ⟨k, hs, hi⟩ := sameKind a0 a1 a2 b0 b1 b2 c0 c1 c2
  refine Ev.call (toFile _ _ _) (Ev.call (toFile _ _ _) (Ev.call (toFile _ _ _) (Ev.call hs (Ev.call (toFile _ _ _) (Ev.call (toFile _ _ _) (Ev.call (toFile _ _ _) (Ev.call hi ?_)))))))
  exact Ev.pos rfl (Ev.now _)
end Go.Proofs.Ytjklgmflillagaa.fnExactMergeKindRow
