/- The pure statement of the law FnExactWorkText: the search of the program and that of the reference come to the same answer. -/
import Derived.Test.YtjklgmflillagaaQFnExactWorkText
import Derived.Test.YtjklgmflillagaaPure
namespace Go.Proofs.Ytjklgmflillagaa.fnExactWorkTextRow
open Go.RowKit Go.Proofs.YtjklgmflillagaaW.PrintWords Go.Proofs.Ytjklgmflillagaa.PFnExactWorkText Go.Proofs.Ytjklgmflillagaa.Op Go.Proofs.Ytjklgmflillagaa.Pure

def conv (x : S65) : S66 := ⟨x.f0, x.f1⟩
theorem rd65 (l : List S65) (i : Nat) (h : i < l.length) : rd_T65 l (i : Int) = l[i] := by simp [rd_T65, h]
theorem rd66 (l : List S66) (i : Nat) (h : i < l.length) : rd_T66 l (i : Int) = l[i] := by simp [rd_T66, h]

theorem szWork (x : S65) (g : good65 x) (a : Int) (h0 : 0 ≤ a) (h1 : a ≤ 1048576) : ∃ r, laws_szWork.f x.f0 x.f1 a = some r ∧ r ≤ a ∧ (r < 0 → r = -1) := by
  obtain ⟨g0, g1⟩ := g
  have : maxLen = 9223372036854775807 := rfl
  unfold laws_szWork.f
  rw [wrap_id (x := a - (x.f0.size : Int)) (by omega) (by omega)]
  by_cases c : a - (x.f0.size : Int) < 0
  · exact ⟨-1, if_pos c, by omega, by omega⟩
  · rw [if_neg c, wrap_id (by omega) (by omega)]
    by_cases c' : a - (x.f0.size : Int) - (x.f1.size : Int) < 0
    · exact ⟨-1, if_pos c', by omega, by omega⟩
    · exact ⟨_, if_neg c', by omega, by omega⟩

theorem szWorkS (l : List S65) (g : ∀ x ∈ l, good65 x) (hl : l.length ≤ 9223372036854775807) : ∃ r, Ev (fun k => laws_szWorkS.f k l 1048576) r ∧ (0 ≤ r → l.length ≤ 1048576) := by
  unfold laws_szWorkS.f
  rw [wrap_id (by omega) (by omega)]
  by_cases c : (1048576 : Int) - (l.length : Int) < 0
  · exact ⟨-1, Ev.pos c (Ev.now _), by omega⟩
  · obtain ⟨r, hr, h2, h3⟩ := fall_loop (fun k a i => laws_szWorkS.l0 k l a i) l (fun x a => (laws_szWork.f x.f0 x.f1 a).getD 0) (by
      intro k a
      simp only [laws_szWorkS.l0]
      rw [if_neg (by omega)]) (by
      intro k a i h h0 h1
      obtain ⟨r, hr, h2, h3⟩ := szWork l[i] (g _ (List.getElem_mem h)) a h0 h1
      simp only [laws_szWorkS.l0]
      rw [if_pos (by omega), if_pos (by omega), rd65 l i h, hr, Option.bind_some, Option.getD_some]
      rw [wrap_up (n := l.length) (by omega) (by omega) hl]) (by
      intro x hx a h0 h1
      obtain ⟨r, hr, h2, h3⟩ := szWork x (g _ hx) a h0 h1
      rw [hr]
      exact h2) ((1048576 : Int) - (l.length : Int)) (by omega) (by omega)
    exact ⟨r, Ev.neg c hr, by omega⟩

theorem toWorkS (l : List S65) (hl : l.length ≤ 1048576) : Ev (fun k => laws_toWorkS.f k l) (l.map conv) := by
  unfold laws_toWorkS.f
  simp only [Int.toNat_natCast]
  refine Ev.pos (by omega) (Ev.pos (by omega) ?_)
  refine fill_loop (fun k ys i => laws_toWorkS.l0 k l ys i) l conv z66 ?_ ?_
  · intro k ys h
    simp only [laws_toWorkS.l0]
    rw [if_neg (by omega)]
  · intro k ys i h hy
    simp only [laws_toWorkS.l0, laws_toWork.f]
    rw [if_pos (by omega), if_pos (by omega), Option.bind_some, if_pos (by omega), rd65 l i h, wrap_up (n := l.length) (by omega) (by omega) (by omega)]
    simp [conv]

def answer (l : List S66) (p : ByteArray) : Int × ByteArray := firstAt (fun i => decide ((rd_T66 l (i : Int)).f0.toList = p.toList)) (fun i => (0, (rd_T66 l (i : Int)).f1)) (4, (⟨#[]⟩ : ByteArray)) 0 l.length

theorem specAnswers (l : List S66) (p : ByteArray) (hl : l.length ≤ 1048576) : Ev (fun k => spec_WorkText.f k l p) (answer l p) := by
  unfold spec_WorkText.f
  refine find_loop (fun k i => spec_WorkText.l0 k l p i) l.length _ _ _ ?_ ?_
  · intro k
    simp only [spec_WorkText.l0]
    rw [if_neg (by omega)]
  · intro k i h
    simp only [spec_WorkText.l0]
    rw [if_pos (by omega), if_pos (by omega), wrap_up (n := l.length) (by omega) (by omega) (by omega)]
    simp

theorem implAnswers (l : List S66) (p : ByteArray) (hl : l.length ≤ 1048576) : Ev (fun k => impl_WorkText.f k l p) (answer l p) := by
  unfold impl_WorkText.f
  refine find_loop (fun k i => impl_WorkText.l0 k p l (l.length : Int) i) l.length _ _ _ ?_ ?_
  · intro k
    simp only [impl_WorkText.l0]
    rw [if_neg (by omega)]
  · intro k i h
    simp only [impl_WorkText.l0]
    rw [if_pos (by omega), if_pos (by omega), if_pos (by omega), wrap_up (n := l.length) (by omega) (by omega) (by omega)]
    simp

theorem eqTextResult (a : Int) (b : ByteArray) : laws_eqTextResult.f a b a b = some true := by simp [laws_eqTextResult.f]
theorem eqWorkS (l : List S66) (hl : l.length ≤ 1048576) : Ev (fun k => laws_eqWorkS.f k l l) true := by
  unfold laws_eqWorkS.f
  simp only [if_true]
  refine same_loop (fun k i => laws_eqWorkS.l0 k l l i) l.length ?_ ?_
  · intro k
    simp only [laws_eqWorkS.l0]
    rw [if_neg (by omega)]
  · intro k i h
    simp only [laws_eqWorkS.l0]
    rw [if_pos (by omega), if_pos (by omega), if_pos (by omega), wrap_up (n := l.length) (by omega) (by omega) (by omega)]
    simp [laws_eqWork.f]

theorem pure_holds : Pure := by
  intro l p hl g hp
  refine Ev.rounds ?_
  unfold laws_FnExactWorkText.f
  by_cases c : (p.size : Int) > 1048576
  · exact Ev.pos c (Ev.now _)
  refine Ev.neg c ?_
  obtain ⟨r, hr, h0⟩ := szWorkS l g hl
  refine Ev.bind hr ?_
  by_cases c' : r < 0
  · exact Ev.pos c' (Ev.now _)
  have hl' := h0 (by omega)
  have hm : (l.map conv).length ≤ 1048576 := by simpa using hl'
  refine Ev.neg c' (Ev.bind (toWorkS l hl') (Ev.bind (specAnswers _ p hm) (Ev.bind (toWorkS l hl') (Ev.bind (implAnswers _ p hm) (Ev.call (eqTextResult _ _) (Ev.pos rfl (Ev.bind (toWorkS l hl') (Ev.bind (eqWorkS _ hm) (Ev.pos rfl (Ev.now _))))))))))
end Go.Proofs.Ytjklgmflillagaa.fnExactWorkTextRow
