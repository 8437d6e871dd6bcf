/- PfMark, PfMarkE, PfMarkEH, PfMarkO, PfMarkR, PfReplayLaw. -/
import Derived.Test.YtmojilihllhadaaGreatDoorPfGa
import Derived.Test.YtmojilihllhadaaGreatDoorPfGe
set_option linter.unusedVariables false
set_option linter.unusedSimpArgs false
namespace Go.Proofs.YtmojilihllhadaaGreatDoor.Ev
open Go
theorem digit_size (c : Int) : (bytesStr (fillElems [(0, c)] (List.replicate 1 (0 : Int)))).size = 1 := rfl
theorem m_size : (ByteArray.mk #[(109 : UInt8)]).size = 1 := rfl
theorem app_size (a b : ByteArray) : (a ++ b).size = a.size + b.size := ByteArray.size_append
theorem tdiv_nat (k : Nat) : (k : Int).tdiv 10 = ((k / 10 : Nat) : Int) := by rw [Int.tdiv_eq_ediv_of_nonneg (by omega)]; omega
theorem markText_L4 : ∀ (f k : Nat) (s : ByteArray), k < 10 ^ f → k < 4611686018427387904 → s.size + f < 4611686018427387904 → ∃ t, Says (fun n => laws_markText_L4 n (k : Int) s) t
  | 0, k, s, hk, hb, hs => by
    have : k = 0 := by simpa using hk
    subst this
    exact ⟨_, Says.step (fun n => laws_markText_L4_eq n 0 s) (Says.neg (by omega) (Says.pos (by rw [m_size]; omega) (.now _)))⟩
  | f + 1, k, s, hk, hb, hs => by
    by_cases h : k = 0
    · subst h
      exact ⟨_, Says.step (fun n => laws_markText_L4_eq n 0 s) (Says.neg (by omega) (Says.pos (by rw [m_size]; omega) (.now _)))⟩
    · have hk' : k / 10 < 10 ^ f := by
        rw [Nat.pow_succ] at hk
        exact Nat.div_lt_of_lt_mul (by rw [Nat.mul_comm]; exact hk)
      obtain ⟨t, ht⟩ := markText_L4 f (k / 10) (bytesStr (fillElems [(0, IntKind.u8.wrap (IntKind.i64.wrap (48 + (k : Int).tmod 10)))] (List.replicate 1 (0 : Int))) ++ s) hk' (by omega) (by rw [app_size, digit_size]; omega)
      refine ⟨t, Says.step (fun n => laws_markText_L4_eq n k s) (Says.pos (by omega) (Says.pos (by rw [digit_size]; omega) ?_))⟩
      rw [tdiv_nat, wrap_nat (by omega)]
      exact ht
theorem markText_ex (k : Nat) (h : k < 1000000000000) : ∃ t, Says (fun n => laws_markText n (k : Int)) t := by
  by_cases h0 : k = 0
  · subst h0
    exact ⟨_, Says.step (fun n => laws_markText_eq n 0) (Says.pos (by omega) (.now _))⟩
  · obtain ⟨t, ht⟩ := markText_L4 12 k noS (by omega) (by omega) (by decide)
    exact ⟨t, Says.step (fun n => laws_markText_eq n k) (Says.neg (by omega) ht)⟩
open Classical in
noncomputable def mt (k : Nat) : ByteArray := if h : ∃ t, Says (fun n => laws_markText n (k : Int)) t then h.choose else noS
theorem mt_says {k : Nat} (h : k < 1000000000000) : Says (fun n => laws_markText n (k : Int)) (mt k) := by
  unfold mt
  rw [dif_pos (markText_ex k h)]
  exact (markText_ex k h).choose_spec
theorem nth_set {t : Ty} {l : List t.den} {i : Nat} (h : i < l.length) (x : t.den) : nth t (l.set i x) i = x := by
  rw [nth_at (by simpa using h)]; simp
def marks {t : Ty} (w : Nat) (mk : Nat → t.den) (k n : Nat) : List t.den := (List.range n).map fun j => mk (k + w * j)
theorem marks_len {t : Ty} (w : Nat) (mk : Nat → t.den) (k n : Nat) : (marks (t := t) w mk k n).length = n := by simp [marks]
theorem marks_get {t : Ty} {w : Nat} {mk : Nat → t.den} {k n i : Nat} (h : i < n) : nth t (marks (t := t) w mk k n) i = mk (k + w * i) := by
  rw [nth_at (by rw [marks_len]; exact h)]; simp [marks]
theorem mark_loop {t : Ty} {L : Nat → Nat → Int → Int → List t.den → Option (Int × List t.den)} (w : Nat) (mk : Nat → t.den)
    (hL : ∀ (N k i : Nat) (m : List t.den), i < N → m.length = N → N ≤ 1048576 → k < 100000000000 → ∀ r, Says (fun n => L n N ((k + w : Nat) : Int) ((i + 1 : Nat) : Int) (m.set i (mk k))) r → Says (fun n => L n N (k : Int) (i : Int) m) r)
    (hE : ∀ n (N k : Nat) (m : List t.den), L (n + 1) N (k : Int) (N : Int) m = some ((k : Int), m)) (hw : w ≤ 8) (k0 : Nat) :
    ∀ (q i : Nat) (m : List t.den), i + q = m.length → m.length ≤ 1048576 → k0 ≤ 1000000000 → m.take i = marks (t := t) w mk k0 i →
    Says (fun n => L n m.length ((k0 + w * i : Nat) : Int) (i : Int) m) (((k0 + w * m.length : Nat) : Int), marks (t := t) w mk k0 m.length)
  | 0, i, m, h, hl, hk, hm => by
    have : i = m.length := by omega
    subst this
    rw [← hm, List.take_length]
    exact Says.step (fun n => hE n m.length _ m) (.now _)
  | q + 1, i, m, h, hl, hk, hm => by
    refine hL m.length (k0 + w * i) i m (by omega) rfl hl ?_ _ ?_
    · have : w * i ≤ 8 * 1048576 := Nat.mul_le_mul hw (by omega)
      omega
    · have := mark_loop w mk hL hE hw k0 q (i + 1) (m.set i (mk (k0 + w * i))) (by simp; omega) (by simpa using hl) hk (by
        rw [take_set (by omega), hm]
        simp [marks, List.range_succ])
      simp only [List.length_set] at this
      rw [show k0 + w * (i + 1) = k0 + w * i + w by rw [Nat.mul_add]; omega] at this
      exact this
theorem held_loop {t : Ty} {L : Nat → List t.den → Int → Int → Option Int} (w : Nat) (mk : Nat → t.den)
    (hL : ∀ (l : List t.den) (k i : Nat), i < l.length → l.length ≤ 1048576 → k < 100000000000 → nth t l i = mk k → ∀ r, Says (fun n => L n l ((k + w : Nat) : Int) ((i + 1 : Nat) : Int)) r → Says (fun n => L n l (k : Int) (i : Int)) r)
    (hE : ∀ n (l : List t.den) (k : Nat), L (n + 1) l (k : Int) (l.length : Int) = some (k : Int)) (hw : w ≤ 8) (k0 N : Nat) (hN : N ≤ 1048576) (hk : k0 ≤ 1000000000) :
    ∀ (q i : Nat), i + q = N → Says (fun n => L n (marks (t := t) w mk k0 N) ((k0 + w * i : Nat) : Int) (i : Int)) ((k0 + w * N : Nat) : Int)
  | 0, i, h => by
    have : i = N := by omega
    subst this
    exact Says.step (fun n => by have := hE n (marks (t := t) w mk k0 i) (k0 + w * i); rw [marks_len] at this; exact this) (.now _)
  | q + 1, i, h => by
    refine hL _ (k0 + w * i) i (by rw [marks_len]; omega) (by rw [marks_len]; exact hN) ?_ (marks_get (by omega)) _ ?_
    · have : w * i ≤ 8 * 1048576 := Nat.mul_le_mul hw (by omega)
      omega
    · have := held_loop w mk hL hE hw k0 N hN hk q (i + 1) (by omega)
      rw [show k0 + w * (i + 1) = k0 + w * i + w by rw [Nat.mul_add]; omega] at this
      exact this
noncomputable def mkEntry (k : Nat) : T_Entry.den := (mt k, ((k + 1 : Nat) : Int), ((k + 2 : Nat) : Int), mt (k + 3), ())
theorem markEntryS_says (l : List T_Entry.den) (k : Nat) (hl : l.length ≤ 1048576) (hk : k ≤ 1000000000) : Says (fun n => laws_markEntryS n l (k : Int)) (((k + 4 * l.length : Nat) : Int), marks (t := T_Entry) 4 mkEntry k l.length) := by
  refine Says.step (fun n => laws_markEntryS_eq n l k) ?_
  have := mark_loop (t := T_Entry) (L := laws_markEntryS_L2) 4 mkEntry (fun N k i m hi hm hN hk r hr => by
    subst hm
    have h1 : IntKind.i64.wrap ((k : Int) + 1) = ((k + 1 : Nat) : Int) := wrap_succ (by omega)
    have h2 : IntKind.i64.wrap (((k + 1 : Nat) : Int) + 1) = ((k + 2 : Nat) : Int) := wrap_succ (by omega)
    have h2' : IntKind.i64.wrap (((k + 2 : Nat) : Int) + 1) = ((k + 3 : Nat) : Int) := wrap_succ (by omega)
    have h2'' : IntKind.i64.wrap (((k + 3 : Nat) : Int) + 1) = ((k + 4 : Nat) : Int) := wrap_succ (by omega)
    have h3 : IntKind.i64.wrap ((i : Int) + 1) = ((i + 1 : Nat) : Int) := wrap_succ (by omega)
    refine Says.step (fun n => laws_markEntryS_L2_eq n m.length k i m) (Says.pos (by omega) (Says.bind (mt_says (by omega)) (Says.pos (by omega) (Says.pos (by omega) (Says.pos (by omega) ?_)))))
    simp only [h1, h2, h2', h2'', h3]
    refine Says.bind (mt_says (by omega)) (Says.pos (by omega) ?_)
    simp only [Int.toNat_natCast, List.set_set, nth_set hi, List.length_set]
    exact hr) (fun n N k m => by rw [laws_markEntryS_L2_eq]; simp) (by omega) k l.length 0 l (by omega) hl hk rfl
  simpa using this
theorem heldEntryS_says (k N : Nat) (hN : N ≤ 1048576) (hk : k ≤ 1000000000) : Says (fun n => laws_heldEntryS n (marks (t := T_Entry) 4 mkEntry k N) (k : Int)) ((k + 4 * N : Nat) : Int) := by
  refine Says.step (fun n => laws_heldEntryS_eq n _ k) ?_
  have := held_loop (t := T_Entry) (L := laws_heldEntryS_L2) 4 mkEntry (fun l k i hi hN hk hn r hr => by
    have h1 : IntKind.i64.wrap ((k : Int) + 1) = ((k + 1 : Nat) : Int) := wrap_succ (by omega)
    have h2 : IntKind.i64.wrap (((k + 1 : Nat) : Int) + 1) = ((k + 2 : Nat) : Int) := wrap_succ (by omega)
    have h2' : IntKind.i64.wrap (((k + 2 : Nat) : Int) + 1) = ((k + 3 : Nat) : Int) := wrap_succ (by omega)
    have h2'' : IntKind.i64.wrap (((k + 3 : Nat) : Int) + 1) = ((k + 4 : Nat) : Int) := wrap_succ (by omega)
    have h3 : IntKind.i64.wrap ((i : Int) + 1) = ((i + 1 : Nat) : Int) := wrap_succ (by omega)
    refine Says.step (fun n => laws_heldEntryS_L2_eq n l k i) (Says.pos (by omega) (Says.pos (by omega) (Says.bind (mt_says (by omega)) ?_)))
    simp only [h1, h2, h2', h2'', h3, Int.toNat_natCast, hn]
    refine Says.condF (by simp [mkEntry]) (Says.pos (by omega) (Says.condF (by simp [mkEntry]) (Says.pos (by omega) (Says.condF (by simp [mkEntry]) (Says.pos (by omega) (Says.bind (mt_says (by omega)) (Says.condF (by simp [mkEntry]) ?_)))))))
    exact hr) (fun n l k => by rw [laws_heldEntryS_L2_eq]; simp) (by omega) k N hN hk N 0 (by omega)
  simpa using this
noncomputable def mkObject (k : Nat) : T_Object.den := (mt k, ((k + 1 : Nat) : Int), mt (k + 2), ())
noncomputable def mkWork (k : Nat) : T_Work.den := (mt k, mt (k + 1), ())
theorem markObjectS_says (l : List T_Object.den) (k : Nat) (hl : l.length ≤ 1048576) (hk : k ≤ 1000000000) : Says (fun n => laws_markObjectS n l (k : Int)) (((k + 3 * l.length : Nat) : Int), marks (t := T_Object) 3 mkObject k l.length) := by
  refine Says.step (fun n => laws_markObjectS_eq n l k) ?_
  have := mark_loop (t := T_Object) (L := laws_markObjectS_L2) 3 mkObject (fun N k i m hi hm hN hk r hr => by
    subst hm
    have h1 : IntKind.i64.wrap ((k : Int) + 1) = ((k + 1 : Nat) : Int) := wrap_succ (by omega)
    have h2 : IntKind.i64.wrap (((k + 1 : Nat) : Int) + 1) = ((k + 2 : Nat) : Int) := wrap_succ (by omega)
    have h2' : IntKind.i64.wrap (((k + 2 : Nat) : Int) + 1) = ((k + 3 : Nat) : Int) := wrap_succ (by omega)
    have h3 : IntKind.i64.wrap ((i : Int) + 1) = ((i + 1 : Nat) : Int) := wrap_succ (by omega)
    refine Says.step (fun n => laws_markObjectS_L2_eq n m.length k i m) (Says.pos (by omega) (Says.bind (mt_says (by omega)) (Says.pos (by omega) (Says.pos (by omega) ?_))))
    simp only [h1, h2, h2', h3]
    refine Says.bind (mt_says (by omega)) (Says.pos (by omega) ?_)
    simp only [Int.toNat_natCast, List.set_set, nth_set hi, List.length_set]
    exact hr) (fun n N k m => by rw [laws_markObjectS_L2_eq]; simp) (by omega) k l.length 0 l (by omega) hl hk rfl
  simpa using this
theorem heldObjectS_says (k N : Nat) (hN : N ≤ 1048576) (hk : k ≤ 1000000000) : Says (fun n => laws_heldObjectS n (marks (t := T_Object) 3 mkObject k N) (k : Int)) ((k + 3 * N : Nat) : Int) := by
  refine Says.step (fun n => laws_heldObjectS_eq n _ k) ?_
  have := held_loop (t := T_Object) (L := laws_heldObjectS_L2) 3 mkObject (fun l k i hi hN hk hn r hr => by
    have h1 : IntKind.i64.wrap ((k : Int) + 1) = ((k + 1 : Nat) : Int) := wrap_succ (by omega)
    have h2 : IntKind.i64.wrap (((k + 1 : Nat) : Int) + 1) = ((k + 2 : Nat) : Int) := wrap_succ (by omega)
    have h2' : IntKind.i64.wrap (((k + 2 : Nat) : Int) + 1) = ((k + 3 : Nat) : Int) := wrap_succ (by omega)
    have h3 : IntKind.i64.wrap ((i : Int) + 1) = ((i + 1 : Nat) : Int) := wrap_succ (by omega)
    refine Says.step (fun n => laws_heldObjectS_L2_eq n l k i) (Says.pos (by omega) (Says.pos (by omega) (Says.bind (mt_says (by omega)) ?_)))
    simp only [h1, h2, h2', h3, Int.toNat_natCast, hn]
    refine Says.condF (by simp [mkObject]) (Says.pos (by omega) (Says.condF (by simp [mkObject]) (Says.pos (by omega) (Says.bind (mt_says (by omega)) (Says.condF (by simp [mkObject]) ?_)))))
    exact hr) (fun n l k => by rw [laws_heldObjectS_L2_eq]; simp) (by omega) k N hN hk N 0 (by omega)
  simpa using this
theorem markRuleS_says (l : List T_Work.den) (k : Nat) (hl : l.length ≤ 1048576) (hk : k ≤ 1000000000) : Says (fun n => laws_markRuleS n l (k : Int)) (((k + 2 * l.length : Nat) : Int), marks (t := T_Work) 2 mkWork k l.length) := by
  refine Says.step (fun n => laws_markRuleS_eq n l k) ?_
  have := mark_loop (t := T_Work) (L := laws_markRuleS_L2) 2 mkWork (fun N k i m hi hm hN hk r hr => by
    subst hm
    have h1 : IntKind.i64.wrap ((k : Int) + 1) = ((k + 1 : Nat) : Int) := wrap_succ (by omega)
    have h2 : IntKind.i64.wrap (((k + 1 : Nat) : Int) + 1) = ((k + 2 : Nat) : Int) := wrap_succ (by omega)
    have h3 : IntKind.i64.wrap ((i : Int) + 1) = ((i + 1 : Nat) : Int) := wrap_succ (by omega)
    refine Says.step (fun n => laws_markRuleS_L2_eq n m.length k i m) (Says.pos (by omega) (Says.bind (mt_says (by omega)) (Says.pos (by omega) ?_)))
    simp only [h1, h2, h3]
    refine Says.bind (mt_says (by omega)) (Says.pos (by omega) ?_)
    simp only [Int.toNat_natCast, List.set_set, nth_set hi, List.length_set]
    exact hr) (fun n N k m => by rw [laws_markRuleS_L2_eq]; simp) (by omega) k l.length 0 l (by omega) hl hk rfl
  simpa using this
theorem szr_rng {b : Nat} {s : Int} (hs : s ≤ 1048576) : szr b s ≤ 1048576 := by unfold szr; split <;> omega
theorem replayRules_law (x : List T_Object.den) (y : List T_Entry.den) (z : List T_Work.den) (g : good (.sl T_Object) x) (g2 : good (.sl T_Entry) y) (g3 : good (.sl T_Work) z) : Says (fun n => laws_FnExactReplayRules n x y z) true := by
  refine says_lim ?_
  show laws_FnExactReplayRules.s x y z = some true
  have e1 : laws_szObjectS.s x 1048576 = some (szr (bulk (.sl T_Object) x) 1048576) := lim_says (says_laws_szObjectS x 1048576 g (by omega) (by omega))
  rw [laws_FnExactReplayRules.e, e1, Option.bind_some]
  generalize hA : szr (bulk (.sl T_Object) x) 1048576 = A
  have hA' : A ≤ 1048576 := by rw [← hA]; exact szr_rng (by omega)
  by_cases h : A < 0
  · rw [if_pos h]
  have e2 : laws_szEntryS.s y A = some (szr (bulk (.sl T_Entry) y) A) := lim_says (says_laws_szEntryS y A g2 (by omega) hA')
  rw [if_neg h, e2, Option.bind_some]
  generalize hB : szr (bulk (.sl T_Entry) y) A = B
  have hB' : B ≤ 1048576 := by rw [← hB]; exact szr_rng hA'
  by_cases h' : B < 0
  · rw [if_pos h']
  have e3 : laws_szRuleS.s z B = some (szr (bulk (.sl T_Work) z) B) := lim_says (says_laws_szRuleS z B g3 (by omega) hB')
  rw [if_neg h', e3, Option.bind_some]
  by_cases h'' : szr (bulk (.sl T_Work) z) B < 0
  · rw [if_pos h'']
  have b1 : bulk (.sl T_Object) x ≤ 1048576 := by have := szr_pos (b := bulk (.sl T_Object) x) (s := 1048576) (by rw [hA]; exact h); omega
  have b2 : bulk (.sl T_Entry) y ≤ 1048576 := by have := szr_pos (b := bulk (.sl T_Entry) y) (s := A) (by rw [hB]; exact h'); omega
  have b3 : bulk (.sl T_Work) z ≤ 1048576 := by have := szr_pos h''; omega
  have t1 : laws_toObjectS.s x = some x := lim_says (says_laws_toObjectS x (by omega))
  have t2 : laws_toEntryS.s y = some y := lim_says (says_laws_toEntryS y (by omega))
  have t3 : laws_toRuleS.s z = some z := lim_says (says_laws_toRuleS z (by omega))
  have q1 : laws_eqObjectS.s x x = some true := lim_says (says_laws_eqObjectS x (by omega))
  have q2 : laws_eqEntryS.s y y = some true := lim_says (says_laws_eqEntryS y (by omega))
  have q3 : laws_eqRuleS.s z z = some true := lim_says (says_laws_eqRuleS z (by omega))
  have hx : bulk (.sl T_Object) x = x.length + (x.map (bulk T_Object)).sum := rfl
  have hy : bulk (.sl T_Entry) y = y.length + (y.map (bulk T_Entry)).sum := rfl
  have hz : bulk (.sl T_Work) z = z.length + (z.map (bulk T_Work)).sum := rfl
  have gi : ∀ e ∈ y, (e.2.2.2.1 : ByteArray).size ≤ 1048576 := fun e he => by
    have h1 := bulk_mem (t := T_Entry) he
    have h3 : bulk T_Entry e = (e.1 : ByteArray).size + (0 + (0 + ((e.2.2.2.1 : ByteArray).size + 0))) := rfl
    omega
  obtain ⟨r, r1, r2, r3⟩ := replay_all x (by omega) y (by omega) (good_size (by omega)) gi z (by omega)
  have q4 : laws_eqReplayResult.s r r = some true := lim_says (says_laws_eqReplayResult r r3.bulk)
  have hr1 := r3.st
  have hr2 := r3.ix
  have m1 : laws_markObjectS.s x 1 = some (((1 + 3 * x.length : Nat) : Int), marks (t := T_Object) 3 mkObject 1 x.length) := lim_says (markObjectS_says x 1 (by omega) (by omega))
  have m2 : laws_markEntryS.s y ((1 + 3 * x.length : Nat) : Int) = some (((1 + 3 * x.length + 4 * y.length : Nat) : Int), marks (t := T_Entry) 4 mkEntry (1 + 3 * x.length) y.length) := lim_says (markEntryS_says y (1 + 3 * x.length) (by omega) (by omega))
  have m3 : laws_markRuleS.s z ((1 + 3 * x.length + 4 * y.length : Nat) : Int) = some (((1 + 3 * x.length + 4 * y.length + 2 * z.length : Nat) : Int), marks (t := T_Work) 2 mkWork (1 + 3 * x.length + 4 * y.length) z.length) := lim_says (markRuleS_says z (1 + 3 * x.length + 4 * y.length) (by omega) (by omega))
  have k1 : laws_markObjectS.s r.2.2.1 1 = some (((1 + 3 * r.2.2.1.length : Nat) : Int), marks (t := T_Object) 3 mkObject 1 r.2.2.1.length) := lim_says (markObjectS_says r.2.2.1 1 hr1 (by omega))
  have k2 : laws_markEntryS.s r.2.2.2.1 ((1 + 3 * r.2.2.1.length : Nat) : Int) = some (((1 + 3 * r.2.2.1.length + 4 * r.2.2.2.1.length : Nat) : Int), marks (t := T_Entry) 4 mkEntry (1 + 3 * r.2.2.1.length) r.2.2.2.1.length) := lim_says (markEntryS_says r.2.2.2.1 (1 + 3 * r.2.2.1.length) hr2 (by omega))
  have l1 : laws_heldObjectS.s (marks (t := T_Object) 3 mkObject 1 r.2.2.1.length) 1 = some ((1 + 3 * r.2.2.1.length : Nat) : Int) := lim_says (heldObjectS_says 1 r.2.2.1.length hr1 (by omega))
  have l2 : laws_heldEntryS.s (marks (t := T_Entry) 4 mkEntry (1 + 3 * r.2.2.1.length) r.2.2.2.1.length) ((1 + 3 * r.2.2.1.length : Nat) : Int) = some ((1 + 3 * r.2.2.1.length + 4 * r.2.2.2.1.length : Nat) : Int) := lim_says (heldEntryS_says (1 + 3 * r.2.2.1.length) r.2.2.2.1.length hr2 (by omega))
  have k5 : laws_markReplayResult.s r.2.2.1 r.2.2.2.1 r.1 r.2.1 1 = some (((1 + 3 * r.2.2.1.length + 4 * r.2.2.2.1.length : Nat) : Int), marks (t := T_Object) 3 mkObject 1 r.2.2.1.length, marks (t := T_Entry) 4 mkEntry (1 + 3 * r.2.2.1.length) r.2.2.2.1.length) := by
    rw [laws_markReplayResult.e, k1, Option.bind_some]
    show (laws_markEntryS.s r.2.2.2.1 ((1 + 3 * r.2.2.1.length : Nat) : Int)).bind _ = _
    rw [k2, Option.bind_some]
  have k6 : laws_heldReplayResult.s (r.1, r.2.1, marks (t := T_Object) 3 mkObject 1 r.2.2.1.length, marks (t := T_Entry) 4 mkEntry (1 + 3 * r.2.2.1.length) r.2.2.2.1.length, ()) 1 = some ((1 + 3 * r.2.2.1.length + 4 * r.2.2.2.1.length : Nat) : Int) := by
    rw [laws_heldReplayResult.e]
    show (laws_heldObjectS.s (marks (t := T_Object) 3 mkObject 1 r.2.2.1.length) 1).bind _ = _
    rw [l1, Option.bind_some, if_neg (by omega)]
    show (laws_heldEntryS.s (marks (t := T_Entry) 4 mkEntry (1 + 3 * r.2.2.1.length) r.2.2.2.1.length) ((1 + 3 * r.2.2.1.length : Nat) : Int)).bind _ = _
    rw [l2, Option.bind_some, if_neg (by omega)]
  have n1 : ¬ ((1 + 3 * x.length + 4 * y.length + 2 * z.length : Nat) : Int) < 0 := by omega
  have n2 : ¬ ((1 + 3 * r.2.2.1.length + 4 * r.2.2.2.1.length : Nat) : Int) < 0 := by omega
  rw [if_neg h'']
  simp only [t1, t2, t3, q1, q2, q3, q4, r1, r2, m1, m2, m3, k5, k6, if_neg n1, if_neg n2, Option.bind_some, if_true]
end Go.Proofs.YtmojilihllhadaaGreatDoor.Ev
