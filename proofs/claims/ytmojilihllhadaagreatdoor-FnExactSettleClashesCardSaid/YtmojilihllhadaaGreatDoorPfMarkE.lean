/- The marks of entries. -/
import Derived.Test.YtmojilihllhadaaGreatDoorPfMark
set_option linter.unusedVariables false
set_option linter.unusedSimpArgs false
namespace Go.Proofs.YtmojilihllhadaaGreatDoor.Ev
open Go

noncomputable def mkEntry (k : Nat) : T_Entry.den := (mt k, ((k + 1 : Nat) : Int), ((k + 2 : Nat) : Int), mt (k + 3), ())
theorem markEntryS_says (l : List T_Entry.den) (k : Nat) (hl : l.length ≤ 1048576) (hk : k ≤ 1000000000) : Says (fun n => laws_markEntryS n l (k : Int)) (((k + 4 * l.length : Nat) : Int), marks (t := T_Entry) 4 mkEntry k l.length) := by
  refine Says.step (fun n => laws_markEntryS_eq n l k) ?_
  have := mark_loop (t := T_Entry) (L := laws_markEntryS_L2) 4 mkEntry (fun N k i m hi hm hN hk r hr => by
    subst hm
    have h1 : IntKind.i64.wrap ((k : Int) + 1) = ((k + 1 : Nat) : Int) := wrap_succ (by omega)
    have h2 : IntKind.i64.wrap (((k + 1 : Nat) : Int) + 1) = ((k + 2 : Nat) : Int) := wrap_succ (by omega)
    have h2' : IntKind.i64.wrap (((k + 2 : Nat) : Int) + 1) = ((k + 3 : Nat) : Int) := wrap_succ (by omega)
    have h2'' : IntKind.i64.wrap (((k + 3 : Nat) : Int) + 1) = ((k + 4 : Nat) : Int) := wrap_succ (by omega)
    have h3 : IntKind.i64.wrap ((i : Int) + 1) = ((i + 1 : Nat) : Int) := wrap_succ (by omega)
    refine Says.step (fun n => laws_markEntryS_L2_eq n m.length k i m) (Says.pos (by omega) (Says.bind (mt_says (by omega)) (Says.pos (by omega) (Says.pos (by omega) (Says.pos (by omega) ?_)))))
    simp only [h1, h2, h2', h2'', h3]
    refine Says.bind (mt_says (by omega)) (Says.pos (by omega) ?_)
    simp only [Int.toNat_natCast, List.set_set, nth_set hi, List.length_set]
    exact hr) (fun n N k m => by rw [laws_markEntryS_L2_eq]; simp) (by omega) k l.length 0 l (by omega) hl hk rfl
  simpa using this
end Go.Proofs.YtmojilihllhadaaGreatDoor.Ev
