/- FnExactParseIndex: at every text of at most 1048576 bytes both ways answer the same, and what is written into the answer stands there. -/
import Derived.Test.YthooeghlplhlnaaGreatDoorPfParse4
import Derived.Test.YthooeghlplhlnaaGreatDoorPfMarkE
set_option linter.unusedVariables false
set_option linter.unusedSimpArgs false
namespace Go.Proofs.YthooeghlplhlnaaGreatDoor.Ev
open Go

theorem parseIndex_law (x : ByteArray) (g : good .str x) : Says (fun n => laws_FnExactParseIndex n x) true := by
  refine says_lim ?_
  show laws_FnExactParseIndex.s x = some true
  rw [laws_FnExactParseIndex.e]
  by_cases h : (x.size : Int) > 1048576
  · rw [if_pos h]
  obtain ⟨r, r1, r2, r3⟩ := parse_all x
  have hr : bulk (.sl T_Entry) r.2.2.1 = r.2.2.1.length + (r.2.2.1.map (bulk T_Entry)).sum := rfl
  have hlen : r.2.2.1.length ≤ 1048576 := by omega
  have q2 : laws_eqEntriesResult.s r r = some true := lim_says (says_laws_eqEntriesResult r (by show 0 + (0 + (bulk (.sl T_Entry) r.2.2.1 + 0)) ≤ _; omega))
  have m2 : laws_markEntryS.s r.2.2.1 1 = some (((1 + 4 * r.2.2.1.length : Nat) : Int), marks (t := T_Entry) 4 mkEntry 1 r.2.2.1.length) := lim_says (markEntryS_says r.2.2.1 1 hlen (by omega))
  have h1 : laws_heldEntryS.s (marks (t := T_Entry) 4 mkEntry 1 r.2.2.1.length) 1 = some ((1 + 4 * r.2.2.1.length : Nat) : Int) := lim_says (heldEntryS_says 1 r.2.2.1.length hlen (by omega))
  have m3 : laws_markEntriesResult.s r.2.2.1 r.1 r.2.1 1 = some (((1 + 4 * r.2.2.1.length : Nat) : Int), marks (t := T_Entry) 4 mkEntry 1 r.2.2.1.length) := by
    rw [laws_markEntriesResult.e, m2, Option.bind_some]
  have h2 : laws_heldEntriesResult.s (r.1, r.2.1, marks (t := T_Entry) 4 mkEntry 1 r.2.2.1.length, ()) 1 = some ((1 + 4 * r.2.2.1.length : Nat) : Int) := by
    rw [laws_heldEntriesResult.e, h1, Option.bind_some, if_neg (by omega)]
  have n2 : ¬ ((1 + 4 * r.2.2.1.length : Nat) : Int) < 0 := by omega
  rw [if_neg h]
  simp only [q2, r1, r2, m3, h2, if_neg n2, Option.bind_some, if_true]
end Go.Proofs.YthooeghlplhlnaaGreatDoor.Ev
