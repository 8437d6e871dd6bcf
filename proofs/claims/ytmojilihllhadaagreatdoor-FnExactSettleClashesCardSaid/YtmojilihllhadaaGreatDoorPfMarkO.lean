/- The marks of objects, files, works. -/
import Derived.Test.YtmojilihllhadaaGreatDoorPfMark
set_option linter.unusedVariables false
set_option linter.unusedSimpArgs false
namespace Go.Proofs.YtmojilihllhadaaGreatDoor.Ev
open Go

noncomputable def mkObject (k : Nat) : T_Object.den := (mt k, ((k + 1 : Nat) : Int), mt (k + 2), ())
noncomputable def mkWork (k : Nat) : T_Work.den := (mt k, mt (k + 1), ())
theorem markObjectS_says (l : List T_Object.den) (k : Nat) (hl : l.length ≤ 1048576) (hk : k ≤ 1000000000) : Says (fun n => laws_markObjectS n l (k : Int)) (((k + 3 * l.length : Nat) : Int), marks (t := T_Object) 3 mkObject k l.length) := by
  refine Says.step (fun n => laws_markObjectS_eq n l k) ?_
  have := mark_loop (t := T_Object) (L := laws_markObjectS_L2) 3 mkObject (fun N k i m hi hm hN hk r hr => by
    subst hm
    have h1 : IntKind.i64.wrap ((k : Int) + 1) = ((k + 1 : Nat) : Int) := wrap_succ (by omega)
    have h2 : IntKind.i64.wrap (((k + 1 : Nat) : Int) + 1) = ((k + 2 : Nat) : Int) := wrap_succ (by omega)
    have h2' : IntKind.i64.wrap (((k + 2 : Nat) : Int) + 1) = ((k + 3 : Nat) : Int) := wrap_succ (by omega)
    have h3 : IntKind.i64.wrap ((i : Int) + 1) = ((i + 1 : Nat) : Int) := wrap_succ (by omega)
    refine Says.step (fun n => laws_markObjectS_L2_eq n m.length k i m) (Says.pos (by omega) (Says.bind (mt_says (by omega)) (Says.pos (by omega) (Says.pos (by omega) ?_))))
    simp only [h1, h2, h2', h3]
    refine Says.bind (mt_says (by omega)) (Says.pos (by omega) ?_)
    simp only [Int.toNat_natCast, List.set_set, nth_set hi, List.length_set]
    exact hr) (fun n N k m => by rw [laws_markObjectS_L2_eq]; simp) (by omega) k l.length 0 l (by omega) hl hk rfl
  simpa using this
theorem heldObjectS_says (k N : Nat) (hN : N ≤ 1048576) (hk : k ≤ 1000000000) : Says (fun n => laws_heldObjectS n (marks (t := T_Object) 3 mkObject k N) (k : Int)) ((k + 3 * N : Nat) : Int) := by
  refine Says.step (fun n => laws_heldObjectS_eq n _ k) ?_
  have := held_loop (t := T_Object) (L := laws_heldObjectS_L2) 3 mkObject (fun l k i hi hN hk hn r hr => by
    have h1 : IntKind.i64.wrap ((k : Int) + 1) = ((k + 1 : Nat) : Int) := wrap_succ (by omega)
    have h2 : IntKind.i64.wrap (((k + 1 : Nat) : Int) + 1) = ((k + 2 : Nat) : Int) := wrap_succ (by omega)
    have h2' : IntKind.i64.wrap (((k + 2 : Nat) : Int) + 1) = ((k + 3 : Nat) : Int) := wrap_succ (by omega)
    have h3 : IntKind.i64.wrap ((i : Int) + 1) = ((i + 1 : Nat) : Int) := wrap_succ (by omega)
    refine Says.step (fun n => laws_heldObjectS_L2_eq n l k i) (Says.pos (by omega) (Says.pos (by omega) (Says.bind (mt_says (by omega)) ?_)))
    simp only [h1, h2, h2', h3, Int.toNat_natCast, hn]
    refine Says.condF (by simp [mkObject]) (Says.pos (by omega) (Says.condF (by simp [mkObject]) (Says.pos (by omega) (Says.bind (mt_says (by omega)) (Says.condF (by simp [mkObject]) ?_)))))
    exact hr) (fun n l k => by rw [laws_heldObjectS_L2_eq]; simp) (by omega) k N hN hk N 0 (by omega)
  simpa using this
theorem markFileS_says (l : List T_Object.den) (k : Nat) (hl : l.length ≤ 1048576) (hk : k ≤ 1000000000) : Says (fun n => laws_markFileS n l (k : Int)) (((k + 3 * l.length : Nat) : Int), marks (t := T_Object) 3 mkObject k l.length) := by
  refine Says.step (fun n => laws_markFileS_eq n l k) ?_
  have := mark_loop (t := T_Object) (L := laws_markFileS_L2) 3 mkObject (fun N k i m hi hm hN hk r hr => by
    subst hm
    have h1 : IntKind.i64.wrap ((k : Int) + 1) = ((k + 1 : Nat) : Int) := wrap_succ (by omega)
    have h2 : IntKind.i64.wrap (((k + 1 : Nat) : Int) + 1) = ((k + 2 : Nat) : Int) := wrap_succ (by omega)
    have h2' : IntKind.i64.wrap (((k + 2 : Nat) : Int) + 1) = ((k + 3 : Nat) : Int) := wrap_succ (by omega)
    have h3 : IntKind.i64.wrap ((i : Int) + 1) = ((i + 1 : Nat) : Int) := wrap_succ (by omega)
    refine Says.step (fun n => laws_markFileS_L2_eq n m.length k i m) (Says.pos (by omega) (Says.bind (mt_says (by omega)) (Says.pos (by omega) (Says.pos (by omega) ?_))))
    simp only [h1, h2, h2', h3]
    refine Says.bind (mt_says (by omega)) (Says.pos (by omega) ?_)
    simp only [Int.toNat_natCast, List.set_set, nth_set hi, List.length_set]
    exact hr) (fun n N k m => by rw [laws_markFileS_L2_eq]; simp) (by omega) k l.length 0 l (by omega) hl hk rfl
  simpa using this
theorem heldFileS_says (k N : Nat) (hN : N ≤ 1048576) (hk : k ≤ 1000000000) : Says (fun n => laws_heldFileS n (marks (t := T_Object) 3 mkObject k N) (k : Int)) ((k + 3 * N : Nat) : Int) := by
  refine Says.step (fun n => laws_heldFileS_eq n _ k) ?_
  have := held_loop (t := T_Object) (L := laws_heldFileS_L2) 3 mkObject (fun l k i hi hN hk hn r hr => by
    have h1 : IntKind.i64.wrap ((k : Int) + 1) = ((k + 1 : Nat) : Int) := wrap_succ (by omega)
    have h2 : IntKind.i64.wrap (((k + 1 : Nat) : Int) + 1) = ((k + 2 : Nat) : Int) := wrap_succ (by omega)
    have h2' : IntKind.i64.wrap (((k + 2 : Nat) : Int) + 1) = ((k + 3 : Nat) : Int) := wrap_succ (by omega)
    have h3 : IntKind.i64.wrap ((i : Int) + 1) = ((i + 1 : Nat) : Int) := wrap_succ (by omega)
    refine Says.step (fun n => laws_heldFileS_L2_eq n l k i) (Says.pos (by omega) (Says.pos (by omega) (Says.bind (mt_says (by omega)) ?_)))
    simp only [h1, h2, h2', h3, Int.toNat_natCast, hn]
    refine Says.condF (by simp [mkObject]) (Says.pos (by omega) (Says.condF (by simp [mkObject]) (Says.pos (by omega) (Says.bind (mt_says (by omega)) (Says.condF (by simp [mkObject]) ?_)))))
    exact hr) (fun n l k => by rw [laws_heldFileS_L2_eq]; simp) (by omega) k N hN hk N 0 (by omega)
  simpa using this
theorem markWorkS_says (l : List T_Work.den) (k : Nat) (hl : l.length ≤ 1048576) (hk : k ≤ 1000000000) : Says (fun n => laws_markWorkS n l (k : Int)) (((k + 2 * l.length : Nat) : Int), marks (t := T_Work) 2 mkWork k l.length) := by
  refine Says.step (fun n => laws_markWorkS_eq n l k) ?_
  have := mark_loop (t := T_Work) (L := laws_markWorkS_L2) 2 mkWork (fun N k i m hi hm hN hk r hr => by
    subst hm
    have h1 : IntKind.i64.wrap ((k : Int) + 1) = ((k + 1 : Nat) : Int) := wrap_succ (by omega)
    have h2 : IntKind.i64.wrap (((k + 1 : Nat) : Int) + 1) = ((k + 2 : Nat) : Int) := wrap_succ (by omega)
    have h3 : IntKind.i64.wrap ((i : Int) + 1) = ((i + 1 : Nat) : Int) := wrap_succ (by omega)
    refine Says.step (fun n => laws_markWorkS_L2_eq n m.length k i m) (Says.pos (by omega) (Says.bind (mt_says (by omega)) (Says.pos (by omega) ?_)))
    simp only [h1, h2, h3]
    refine Says.bind (mt_says (by omega)) (Says.pos (by omega) ?_)
    simp only [Int.toNat_natCast, List.set_set, nth_set hi, List.length_set]
    exact hr) (fun n N k m => by rw [laws_markWorkS_L2_eq]; simp) (by omega) k l.length 0 l (by omega) hl hk rfl
  simpa using this
end Go.Proofs.YtmojilihllhadaaGreatDoor.Ev
