/- The law FnExactSwapStages: marks, and the law's own row. -/
import Derived.Test.YthooeghlplhlnaaDoorPfSwap
import Derived.Test.YthooeghlplhlnaaDoorPfMark
import Derived.Test.YthooeghlplhlnaaDoorBoA
set_option linter.unusedVariables false
set_option linter.unusedSimpArgs false
namespace Go.Proofs.YthooeghlplhlnaaDoor.Ev
open Go

noncomputable def mkEntry (k : Nat) : T_Entry.den := (mt k, ((k + 1 : Nat) : Int), ((k + 2 : Nat) : Int), mt (k + 3), ())
theorem markEntryS_says (l : List T_Entry.den) (k : Nat) (hl : l.length ≤ 1048576) (hk : k ≤ 1000000000) : Says (fun n => laws_markEntryS n l (k : Int)) (((k + 4 * l.length : Nat) : Int), marks (t := T_Entry) 4 mkEntry k l.length) := by
  refine Says.step (fun n => laws_markEntryS_eq n l k) ?_
  have := mark_loop (t := T_Entry) (L := laws_markEntryS_L2) 4 mkEntry (fun N k i m hi hm hN hk r hr => by
    subst hm
    have h1 : IntKind.i64.wrap ((k : Int) + 1) = ((k + 1 : Nat) : Int) := wrap_succ (by omega)
    have h2 : IntKind.i64.wrap (((k + 1 : Nat) : Int) + 1) = ((k + 2 : Nat) : Int) := wrap_succ (by omega)
    have h2' : IntKind.i64.wrap (((k + 2 : Nat) : Int) + 1) = ((k + 3 : Nat) : Int) := wrap_succ (by omega)
    have h2'' : IntKind.i64.wrap (((k + 3 : Nat) : Int) + 1) = ((k + 4 : Nat) : Int) := wrap_succ (by omega)
    have h3 : IntKind.i64.wrap ((i : Int) + 1) = ((i + 1 : Nat) : Int) := wrap_succ (by omega)
    refine Says.step (fun n => laws_markEntryS_L2_eq n m.length k i m) (Says.pos (by omega) (Says.bind (mt_says (by omega)) (Says.pos (by omega) (Says.pos (by omega) (Says.pos (by omega) ?_)))))
    simp only [h1, h2, h2', h2'', h3]
    refine Says.bind (mt_says (by omega)) (Says.pos (by omega) ?_)
    simp only [Int.toNat_natCast, List.set_set, nth_set hi, List.length_set]
    exact hr) (fun n N k m => by rw [laws_markEntryS_L2_eq]; simp) (by omega) k l.length 0 l (by omega) hl hk rfl
  simpa using this
theorem heldEntryS_says (k N : Nat) (hN : N ≤ 1048576) (hk : k ≤ 1000000000) : Says (fun n => laws_heldEntryS n (marks (t := T_Entry) 4 mkEntry k N) (k : Int)) ((k + 4 * N : Nat) : Int) := by
  refine Says.step (fun n => laws_heldEntryS_eq n _ k) ?_
  have := held_loop (t := T_Entry) (L := laws_heldEntryS_L2) 4 mkEntry (fun l k i hi hN hk hn r hr => by
    have h1 : IntKind.i64.wrap ((k : Int) + 1) = ((k + 1 : Nat) : Int) := wrap_succ (by omega)
    have h2 : IntKind.i64.wrap (((k + 1 : Nat) : Int) + 1) = ((k + 2 : Nat) : Int) := wrap_succ (by omega)
    have h2' : IntKind.i64.wrap (((k + 2 : Nat) : Int) + 1) = ((k + 3 : Nat) : Int) := wrap_succ (by omega)
    have h2'' : IntKind.i64.wrap (((k + 3 : Nat) : Int) + 1) = ((k + 4 : Nat) : Int) := wrap_succ (by omega)
    have h3 : IntKind.i64.wrap ((i : Int) + 1) = ((i + 1 : Nat) : Int) := wrap_succ (by omega)
    refine Says.step (fun n => laws_heldEntryS_L2_eq n l k i) (Says.pos (by omega) (Says.pos (by omega) (Says.bind (mt_says (by omega)) ?_)))
    simp only [h1, h2, h2', h2'', h3, Int.toNat_natCast, hn]
    refine Says.condF (by simp [mkEntry]) (Says.pos (by omega) (Says.condF (by simp [mkEntry]) (Says.pos (by omega) (Says.condF (by simp [mkEntry]) (Says.pos (by omega) (Says.bind (mt_says (by omega)) (Says.condF (by simp [mkEntry]) ?_)))))))
    exact hr) (fun n l k => by rw [laws_heldEntryS_L2_eq]; simp) (by omega) k N hN hk N 0 (by omega)
  simpa using this

theorem good_size {l : List T_Entry.den} (h : bulk (.sl T_Entry) l ≤ 1048576) : ∀ e ∈ l, (e.1 : ByteArray).size ≤ 1048576 := by
  intro e he
  have h2 := bulk_mem (t := T_Entry) he
  have h3 : bulk T_Entry e = (e.1 : ByteArray).size + (0 + (0 + ((e.2.2.2.1 : ByteArray).size + 0))) := rfl
  have h6 : bulk (.sl T_Entry) l = l.length + (l.map (bulk T_Entry)).sum := rfl
  omega
theorem swapStages_law (x : List T_Entry.den) (g : good (.sl T_Entry) x) : Says (fun n => laws_FnExactSwapStages n x) true := by
  refine says_lim ?_
  show laws_FnExactSwapStages.s x = some true
  have e1 : laws_szEntryS.s x 1048576 = some (szr (bulk (.sl T_Entry) x) 1048576) := lim_says (says_laws_szEntryS x 1048576 g (by omega) (by omega))
  rw [laws_FnExactSwapStages.e, e1, Option.bind_some]
  by_cases h : szr (bulk (.sl T_Entry) x) 1048576 < 0
  · rw [if_pos h]
  have hb := szr_pos h
  have hx : bulk (.sl T_Entry) x = x.length + (x.map (bulk T_Entry)).sum := rfl
  obtain ⟨r, r1, r2, r3⟩ := swap_all x (by omega) (good_size (by omega))
  have hr : bulk (.sl T_Entry) r.2.2.1 = r.2.2.1.length + (r.2.2.1.map (bulk T_Entry)).sum := rfl
  have hlen : r.2.2.1.length ≤ 1048576 := by omega
  have t1 : laws_toEntryS.s x = some x := lim_says (says_laws_toEntryS x (by omega))
  have q1 : laws_eqEntryS.s x x = some true := lim_says (says_laws_eqEntryS x (by omega))
  have q2 : laws_eqEntriesResult.s r r = some true := lim_says (says_laws_eqEntriesResult r (by show 0 + (0 + (bulk (.sl T_Entry) r.2.2.1 + 0)) ≤ _; omega))
  have m1 : laws_markEntryS.s x 1 = some (((1 + 4 * x.length : Nat) : Int), marks (t := T_Entry) 4 mkEntry 1 x.length) := lim_says (markEntryS_says x 1 (by omega) (by omega))
  have m2 : laws_markEntryS.s r.2.2.1 1 = some (((1 + 4 * r.2.2.1.length : Nat) : Int), marks (t := T_Entry) 4 mkEntry 1 r.2.2.1.length) := lim_says (markEntryS_says r.2.2.1 1 hlen (by omega))
  have h1 : laws_heldEntryS.s (marks (t := T_Entry) 4 mkEntry 1 r.2.2.1.length) 1 = some ((1 + 4 * r.2.2.1.length : Nat) : Int) := lim_says (heldEntryS_says 1 r.2.2.1.length hlen (by omega))
  have m3 : laws_markEntriesResult.s r.2.2.1 r.1 r.2.1 1 = some (((1 + 4 * r.2.2.1.length : Nat) : Int), marks (t := T_Entry) 4 mkEntry 1 r.2.2.1.length) := by
    rw [laws_markEntriesResult.e, m2, Option.bind_some]
  have h2 : laws_heldEntriesResult.s (r.1, r.2.1, marks (t := T_Entry) 4 mkEntry 1 r.2.2.1.length, ()) 1 = some ((1 + 4 * r.2.2.1.length : Nat) : Int) := by
    rw [laws_heldEntriesResult.e, h1, Option.bind_some, if_neg (by omega)]
  have n1 : ¬ ((1 + 4 * x.length : Nat) : Int) < 0 := by omega
  have n2 : ¬ ((1 + 4 * r.2.2.1.length : Nat) : Int) < 0 := by omega
  rw [if_neg h]
  simp only [t1, q1, q2, r1, r2, m1, m3, h2, if_neg n1, if_neg n2, Option.bind_some, if_true]
end Go.Proofs.YthooeghlplhlnaaDoor.Ev
