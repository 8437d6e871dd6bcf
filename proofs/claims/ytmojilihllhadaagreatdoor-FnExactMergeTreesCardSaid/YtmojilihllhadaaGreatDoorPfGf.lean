/- PfMark, PfMarkE, PfMarkEH, PfMarkO, PfMarkF, PfMarkW, PfMarkT, PfMergeTrees. -/
import Derived.Test.YtmojilihllhadaaGreatDoorPfGa
import Derived.Test.YtmojilihllhadaaGreatDoorPfGe
set_option linter.unusedVariables false
set_option linter.unusedSimpArgs false
namespace Go.Proofs.YtmojilihllhadaaGreatDoor.Ev
open Go
theorem digit_size (c : Int) : (bytesStr (fillElems [(0, c)] (List.replicate 1 (0 : Int)))).size = 1 := rfl
theorem m_size : (ByteArray.mk #[(109 : UInt8)]).size = 1 := rfl
theorem app_size (a b : ByteArray) : (a ++ b).size = a.size + b.size := ByteArray.size_append
theorem tdiv_nat (k : Nat) : (k : Int).tdiv 10 = ((k / 10 : Nat) : Int) := by rw [Int.tdiv_eq_ediv_of_nonneg (by omega)]; omega
theorem markText_L4 : ∀ (f k : Nat) (s : ByteArray), k < 10 ^ f → k < 4611686018427387904 → s.size + f < 4611686018427387904 → ∃ t, Says (fun n => laws_markText_L4 n (k : Int) s) t
  | 0, k, s, hk, hb, hs => by
    have : k = 0 := by simpa using hk
    subst this
    exact ⟨_, Says.step (fun n => laws_markText_L4_eq n 0 s) (Says.neg (by omega) (Says.pos (by rw [m_size]; omega) (.now _)))⟩
  | f + 1, k, s, hk, hb, hs => by
    by_cases h : k = 0
    · subst h
      exact ⟨_, Says.step (fun n => laws_markText_L4_eq n 0 s) (Says.neg (by omega) (Says.pos (by rw [m_size]; omega) (.now _)))⟩
    · have hk' : k / 10 < 10 ^ f := by
        rw [Nat.pow_succ] at hk
        exact Nat.div_lt_of_lt_mul (by rw [Nat.mul_comm]; exact hk)
      obtain ⟨t, ht⟩ := markText_L4 f (k / 10) (bytesStr (fillElems [(0, IntKind.u8.wrap (IntKind.i64.wrap (48 + (k : Int).tmod 10)))] (List.replicate 1 (0 : Int))) ++ s) hk' (by omega) (by rw [app_size, digit_size]; omega)
      refine ⟨t, Says.step (fun n => laws_markText_L4_eq n k s) (Says.pos (by omega) (Says.pos (by rw [digit_size]; omega) ?_))⟩
      rw [tdiv_nat, wrap_nat (by omega)]
      exact ht
theorem markText_ex (k : Nat) (h : k < 1000000000000) : ∃ t, Says (fun n => laws_markText n (k : Int)) t := by
  by_cases h0 : k = 0
  · subst h0
    exact ⟨_, Says.step (fun n => laws_markText_eq n 0) (Says.pos (by omega) (.now _))⟩
  · obtain ⟨t, ht⟩ := markText_L4 12 k noS (by omega) (by omega) (by decide)
    exact ⟨t, Says.step (fun n => laws_markText_eq n k) (Says.neg (by omega) ht)⟩
open Classical in
noncomputable def mt (k : Nat) : ByteArray := if h : ∃ t, Says (fun n => laws_markText n (k : Int)) t then h.choose else noS
theorem mt_says {k : Nat} (h : k < 1000000000000) : Says (fun n => laws_markText n (k : Int)) (mt k) := by
  unfold mt
  rw [dif_pos (markText_ex k h)]
  exact (markText_ex k h).choose_spec
theorem nth_set {t : Ty} {l : List t.den} {i : Nat} (h : i < l.length) (x : t.den) : nth t (l.set i x) i = x := by
  rw [nth_at (by simpa using h)]; simp
def marks {t : Ty} (w : Nat) (mk : Nat → t.den) (k n : Nat) : List t.den := (List.range n).map fun j => mk (k + w * j)
theorem marks_len {t : Ty} (w : Nat) (mk : Nat → t.den) (k n : Nat) : (marks (t := t) w mk k n).length = n := by simp [marks]
theorem marks_get {t : Ty} {w : Nat} {mk : Nat → t.den} {k n i : Nat} (h : i < n) : nth t (marks (t := t) w mk k n) i = mk (k + w * i) := by
  rw [nth_at (by rw [marks_len]; exact h)]; simp [marks]
theorem mark_loop {t : Ty} {L : Nat → Nat → Int → Int → List t.den → Option (Int × List t.den)} (w : Nat) (mk : Nat → t.den)
    (hL : ∀ (N k i : Nat) (m : List t.den), i < N → m.length = N → N ≤ 1048576 → k < 100000000000 → ∀ r, Says (fun n => L n N ((k + w : Nat) : Int) ((i + 1 : Nat) : Int) (m.set i (mk k))) r → Says (fun n => L n N (k : Int) (i : Int) m) r)
    (hE : ∀ n (N k : Nat) (m : List t.den), L (n + 1) N (k : Int) (N : Int) m = some ((k : Int), m)) (hw : w ≤ 8) (k0 : Nat) :
    ∀ (q i : Nat) (m : List t.den), i + q = m.length → m.length ≤ 1048576 → k0 ≤ 1000000000 → m.take i = marks (t := t) w mk k0 i →
    Says (fun n => L n m.length ((k0 + w * i : Nat) : Int) (i : Int) m) (((k0 + w * m.length : Nat) : Int), marks (t := t) w mk k0 m.length)
  | 0, i, m, h, hl, hk, hm => by
    have : i = m.length := by omega
    subst this
    rw [← hm, List.take_length]
    exact Says.step (fun n => hE n m.length _ m) (.now _)
  | q + 1, i, m, h, hl, hk, hm => by
    refine hL m.length (k0 + w * i) i m (by omega) rfl hl ?_ _ ?_
    · have : w * i ≤ 8 * 1048576 := Nat.mul_le_mul hw (by omega)
      omega
    · have := mark_loop w mk hL hE hw k0 q (i + 1) (m.set i (mk (k0 + w * i))) (by simp; omega) (by simpa using hl) hk (by
        rw [take_set (by omega), hm]
        simp [marks, List.range_succ])
      simp only [List.length_set] at this
      rw [show k0 + w * (i + 1) = k0 + w * i + w by rw [Nat.mul_add]; omega] at this
      exact this
theorem held_loop {t : Ty} {L : Nat → List t.den → Int → Int → Option Int} (w : Nat) (mk : Nat → t.den)
    (hL : ∀ (l : List t.den) (k i : Nat), i < l.length → l.length ≤ 1048576 → k < 100000000000 → nth t l i = mk k → ∀ r, Says (fun n => L n l ((k + w : Nat) : Int) ((i + 1 : Nat) : Int)) r → Says (fun n => L n l (k : Int) (i : Int)) r)
    (hE : ∀ n (l : List t.den) (k : Nat), L (n + 1) l (k : Int) (l.length : Int) = some (k : Int)) (hw : w ≤ 8) (k0 N : Nat) (hN : N ≤ 1048576) (hk : k0 ≤ 1000000000) :
    ∀ (q i : Nat), i + q = N → Says (fun n => L n (marks (t := t) w mk k0 N) ((k0 + w * i : Nat) : Int) (i : Int)) ((k0 + w * N : Nat) : Int)
  | 0, i, h => by
    have : i = N := by omega
    subst this
    exact Says.step (fun n => by have := hE n (marks (t := t) w mk k0 i) (k0 + w * i); rw [marks_len] at this; exact this) (.now _)
  | q + 1, i, h => by
    refine hL _ (k0 + w * i) i (by rw [marks_len]; omega) (by rw [marks_len]; exact hN) ?_ (marks_get (by omega)) _ ?_
    · have : w * i ≤ 8 * 1048576 := Nat.mul_le_mul hw (by omega)
      omega
    · have := held_loop w mk hL hE hw k0 N hN hk q (i + 1) (by omega)
      rw [show k0 + w * (i + 1) = k0 + w * i + w by rw [Nat.mul_add]; omega] at this
      exact this
noncomputable def mkEntry (k : Nat) : T_Entry.den := (mt k, ((k + 1 : Nat) : Int), ((k + 2 : Nat) : Int), mt (k + 3), ())
theorem markEntryS_says (l : List T_Entry.den) (k : Nat) (hl : l.length ≤ 1048576) (hk : k ≤ 1000000000) : Says (fun n => laws_markEntryS n l (k : Int)) (((k + 4 * l.length : Nat) : Int), marks (t := T_Entry) 4 mkEntry k l.length) := by
  refine Says.step (fun n => laws_markEntryS_eq n l k) ?_
  have := mark_loop (t := T_Entry) (L := laws_markEntryS_L2) 4 mkEntry (fun N k i m hi hm hN hk r hr => by
    subst hm
    have h1 : IntKind.i64.wrap ((k : Int) + 1) = ((k + 1 : Nat) : Int) := wrap_succ (by omega)
    have h2 : IntKind.i64.wrap (((k + 1 : Nat) : Int) + 1) = ((k + 2 : Nat) : Int) := wrap_succ (by omega)
    have h2' : IntKind.i64.wrap (((k + 2 : Nat) : Int) + 1) = ((k + 3 : Nat) : Int) := wrap_succ (by omega)
    have h2'' : IntKind.i64.wrap (((k + 3 : Nat) : Int) + 1) = ((k + 4 : Nat) : Int) := wrap_succ (by omega)
    have h3 : IntKind.i64.wrap ((i : Int) + 1) = ((i + 1 : Nat) : Int) := wrap_succ (by omega)
    refine Says.step (fun n => laws_markEntryS_L2_eq n m.length k i m) (Says.pos (by omega) (Says.bind (mt_says (by omega)) (Says.pos (by omega) (Says.pos (by omega) (Says.pos (by omega) ?_)))))
    simp only [h1, h2, h2', h2'', h3]
    refine Says.bind (mt_says (by omega)) (Says.pos (by omega) ?_)
    simp only [Int.toNat_natCast, List.set_set, nth_set hi, List.length_set]
    exact hr) (fun n N k m => by rw [laws_markEntryS_L2_eq]; simp) (by omega) k l.length 0 l (by omega) hl hk rfl
  simpa using this
theorem heldEntryS_says (k N : Nat) (hN : N ≤ 1048576) (hk : k ≤ 1000000000) : Says (fun n => laws_heldEntryS n (marks (t := T_Entry) 4 mkEntry k N) (k : Int)) ((k + 4 * N : Nat) : Int) := by
  refine Says.step (fun n => laws_heldEntryS_eq n _ k) ?_
  have := held_loop (t := T_Entry) (L := laws_heldEntryS_L2) 4 mkEntry (fun l k i hi hN hk hn r hr => by
    have h1 : IntKind.i64.wrap ((k : Int) + 1) = ((k + 1 : Nat) : Int) := wrap_succ (by omega)
    have h2 : IntKind.i64.wrap (((k + 1 : Nat) : Int) + 1) = ((k + 2 : Nat) : Int) := wrap_succ (by omega)
    have h2' : IntKind.i64.wrap (((k + 2 : Nat) : Int) + 1) = ((k + 3 : Nat) : Int) := wrap_succ (by omega)
    have h2'' : IntKind.i64.wrap (((k + 3 : Nat) : Int) + 1) = ((k + 4 : Nat) : Int) := wrap_succ (by omega)
    have h3 : IntKind.i64.wrap ((i : Int) + 1) = ((i + 1 : Nat) : Int) := wrap_succ (by omega)
    refine Says.step (fun n => laws_heldEntryS_L2_eq n l k i) (Says.pos (by omega) (Says.pos (by omega) (Says.bind (mt_says (by omega)) ?_)))
    simp only [h1, h2, h2', h2'', h3, Int.toNat_natCast, hn]
    refine Says.condF (by simp [mkEntry]) (Says.pos (by omega) (Says.condF (by simp [mkEntry]) (Says.pos (by omega) (Says.condF (by simp [mkEntry]) (Says.pos (by omega) (Says.bind (mt_says (by omega)) (Says.condF (by simp [mkEntry]) ?_)))))))
    exact hr) (fun n l k => by rw [laws_heldEntryS_L2_eq]; simp) (by omega) k N hN hk N 0 (by omega)
  simpa using this
noncomputable def mkObject (k : Nat) : T_Object.den := (mt k, ((k + 1 : Nat) : Int), mt (k + 2), ())
noncomputable def mkWork (k : Nat) : T_Work.den := (mt k, mt (k + 1), ())
theorem markObjectS_says (l : List T_Object.den) (k : Nat) (hl : l.length ≤ 1048576) (hk : k ≤ 1000000000) : Says (fun n => laws_markObjectS n l (k : Int)) (((k + 3 * l.length : Nat) : Int), marks (t := T_Object) 3 mkObject k l.length) := by
  refine Says.step (fun n => laws_markObjectS_eq n l k) ?_
  have := mark_loop (t := T_Object) (L := laws_markObjectS_L2) 3 mkObject (fun N k i m hi hm hN hk r hr => by
    subst hm
    have h1 : IntKind.i64.wrap ((k : Int) + 1) = ((k + 1 : Nat) : Int) := wrap_succ (by omega)
    have h2 : IntKind.i64.wrap (((k + 1 : Nat) : Int) + 1) = ((k + 2 : Nat) : Int) := wrap_succ (by omega)
    have h2' : IntKind.i64.wrap (((k + 2 : Nat) : Int) + 1) = ((k + 3 : Nat) : Int) := wrap_succ (by omega)
    have h3 : IntKind.i64.wrap ((i : Int) + 1) = ((i + 1 : Nat) : Int) := wrap_succ (by omega)
    refine Says.step (fun n => laws_markObjectS_L2_eq n m.length k i m) (Says.pos (by omega) (Says.bind (mt_says (by omega)) (Says.pos (by omega) (Says.pos (by omega) ?_))))
    simp only [h1, h2, h2', h3]
    refine Says.bind (mt_says (by omega)) (Says.pos (by omega) ?_)
    simp only [Int.toNat_natCast, List.set_set, nth_set hi, List.length_set]
    exact hr) (fun n N k m => by rw [laws_markObjectS_L2_eq]; simp) (by omega) k l.length 0 l (by omega) hl hk rfl
  simpa using this
theorem heldObjectS_says (k N : Nat) (hN : N ≤ 1048576) (hk : k ≤ 1000000000) : Says (fun n => laws_heldObjectS n (marks (t := T_Object) 3 mkObject k N) (k : Int)) ((k + 3 * N : Nat) : Int) := by
  refine Says.step (fun n => laws_heldObjectS_eq n _ k) ?_
  have := held_loop (t := T_Object) (L := laws_heldObjectS_L2) 3 mkObject (fun l k i hi hN hk hn r hr => by
    have h1 : IntKind.i64.wrap ((k : Int) + 1) = ((k + 1 : Nat) : Int) := wrap_succ (by omega)
    have h2 : IntKind.i64.wrap (((k + 1 : Nat) : Int) + 1) = ((k + 2 : Nat) : Int) := wrap_succ (by omega)
    have h2' : IntKind.i64.wrap (((k + 2 : Nat) : Int) + 1) = ((k + 3 : Nat) : Int) := wrap_succ (by omega)
    have h3 : IntKind.i64.wrap ((i : Int) + 1) = ((i + 1 : Nat) : Int) := wrap_succ (by omega)
    refine Says.step (fun n => laws_heldObjectS_L2_eq n l k i) (Says.pos (by omega) (Says.pos (by omega) (Says.bind (mt_says (by omega)) ?_)))
    simp only [h1, h2, h2', h3, Int.toNat_natCast, hn]
    refine Says.condF (by simp [mkObject]) (Says.pos (by omega) (Says.condF (by simp [mkObject]) (Says.pos (by omega) (Says.bind (mt_says (by omega)) (Says.condF (by simp [mkObject]) ?_)))))
    exact hr) (fun n l k => by rw [laws_heldObjectS_L2_eq]; simp) (by omega) k N hN hk N 0 (by omega)
  simpa using this
theorem markFileS_says (l : List T_Object.den) (k : Nat) (hl : l.length ≤ 1048576) (hk : k ≤ 1000000000) : Says (fun n => laws_markFileS n l (k : Int)) (((k + 3 * l.length : Nat) : Int), marks (t := T_Object) 3 mkObject k l.length) := by
  refine Says.step (fun n => laws_markFileS_eq n l k) ?_
  have := mark_loop (t := T_Object) (L := laws_markFileS_L2) 3 mkObject (fun N k i m hi hm hN hk r hr => by
    subst hm
    have h1 : IntKind.i64.wrap ((k : Int) + 1) = ((k + 1 : Nat) : Int) := wrap_succ (by omega)
    have h2 : IntKind.i64.wrap (((k + 1 : Nat) : Int) + 1) = ((k + 2 : Nat) : Int) := wrap_succ (by omega)
    have h2' : IntKind.i64.wrap (((k + 2 : Nat) : Int) + 1) = ((k + 3 : Nat) : Int) := wrap_succ (by omega)
    have h3 : IntKind.i64.wrap ((i : Int) + 1) = ((i + 1 : Nat) : Int) := wrap_succ (by omega)
    refine Says.step (fun n => laws_markFileS_L2_eq n m.length k i m) (Says.pos (by omega) (Says.bind (mt_says (by omega)) (Says.pos (by omega) (Says.pos (by omega) ?_))))
    simp only [h1, h2, h2', h3]
    refine Says.bind (mt_says (by omega)) (Says.pos (by omega) ?_)
    simp only [Int.toNat_natCast, List.set_set, nth_set hi, List.length_set]
    exact hr) (fun n N k m => by rw [laws_markFileS_L2_eq]; simp) (by omega) k l.length 0 l (by omega) hl hk rfl
  simpa using this
theorem markWorkS_says (l : List T_Work.den) (k : Nat) (hl : l.length ≤ 1048576) (hk : k ≤ 1000000000) : Says (fun n => laws_markWorkS n l (k : Int)) (((k + 2 * l.length : Nat) : Int), marks (t := T_Work) 2 mkWork k l.length) := by
  refine Says.step (fun n => laws_markWorkS_eq n l k) ?_
  have := mark_loop (t := T_Work) (L := laws_markWorkS_L2) 2 mkWork (fun N k i m hi hm hN hk r hr => by
    subst hm
    have h1 : IntKind.i64.wrap ((k : Int) + 1) = ((k + 1 : Nat) : Int) := wrap_succ (by omega)
    have h2 : IntKind.i64.wrap (((k + 1 : Nat) : Int) + 1) = ((k + 2 : Nat) : Int) := wrap_succ (by omega)
    have h3 : IntKind.i64.wrap ((i : Int) + 1) = ((i + 1 : Nat) : Int) := wrap_succ (by omega)
    refine Says.step (fun n => laws_markWorkS_L2_eq n m.length k i m) (Says.pos (by omega) (Says.bind (mt_says (by omega)) (Says.pos (by omega) ?_)))
    simp only [h1, h2, h3]
    refine Says.bind (mt_says (by omega)) (Says.pos (by omega) ?_)
    simp only [Int.toNat_natCast, List.set_set, nth_set hi, List.length_set]
    exact hr) (fun n N k m => by rw [laws_markWorkS_L2_eq]; simp) (by omega) k l.length 0 l (by omega) hl hk rfl
  simpa using this
theorem heldWorkS_says (k N : Nat) (hN : N ≤ 1048576) (hk : k ≤ 1000000000) : Says (fun n => laws_heldWorkS n (marks (t := T_Work) 2 mkWork k N) (k : Int)) ((k + 2 * N : Nat) : Int) := by
  refine Says.step (fun n => laws_heldWorkS_eq n _ k) ?_
  have := held_loop (t := T_Work) (L := laws_heldWorkS_L2) 2 mkWork (fun l k i hi hN hk hn r hr => by
    have h1 : IntKind.i64.wrap ((k : Int) + 1) = ((k + 1 : Nat) : Int) := wrap_succ (by omega)
    have h2 : IntKind.i64.wrap (((k + 1 : Nat) : Int) + 1) = ((k + 2 : Nat) : Int) := wrap_succ (by omega)
    have h3 : IntKind.i64.wrap ((i : Int) + 1) = ((i + 1 : Nat) : Int) := wrap_succ (by omega)
    refine Says.step (fun n => laws_heldWorkS_L2_eq n l k i) (Says.pos (by omega) (Says.pos (by omega) (Says.bind (mt_says (by omega)) ?_)))
    simp only [h1, h2, h3, Int.toNat_natCast, hn]
    refine Says.condF (by simp [mkWork]) (Says.pos (by omega) (Says.bind (mt_says (by omega)) (Says.condF (by simp [mkWork]) ?_)))
    exact hr) (fun n l k => by rw [laws_heldWorkS_L2_eq]; simp) (by omega) k N hN hk N 0 (by omega)
  simpa using this
theorem files60 {l : List T_File.den} (h : spec_FilesFault.s l = some 0) : l.length ≤ 60 := by
  rw [spec_FilesFault.e] at h
  by_cases k : (l.length : Int) > 60
  · rw [if_pos k] at h; cases h
  · omega
theorem blobs_s {s : List T_Object.den} (hs : s.length ≤ 1048576) (f : List T_File.den) (hf : f.length ≤ 1048576) : spec_l11Blobs.s s f = some (hasB s f) := by
  have := spec_blobs_s s hs f hf f.length 0 (by omega)
  rw [List.drop_zero] at this
  rw [spec_l11Blobs.e]
  exact this
theorem mergeTrees_all (x : List T_Object.den) (hx : x.length ≤ 1048576) (b o t : List T_File.den) (lb : b.length ≤ 1048576) (lo : o.length ≤ 1048576) (lt : t.length ≤ 1048576) (zb : ∀ f ∈ b, szF f) (zo : ∀ f ∈ o, szF f) (zt : ∀ f ∈ t, szF f) :
    ∃ R, spec_MergeTrees.s x b o t = some R ∧ impl_MergeTrees.s x b o t = some R ∧ SmallT R := by
  obtain ⟨s1, s2⟩ := storeFault_all x hx
  obtain ⟨c1, f1, g1⟩ := filesFault_all b lb fun e he => (zb e he).1
  obtain ⟨c2, f2, g2⟩ := filesFault_all o lo fun e he => (zo e he).1
  obtain ⟨c3, f3, g3⟩ := filesFault_all t lt fun e he => (zt e he).1
  have w1 : IntKind.i64.wrap ((0 : Int) + 1) = 1 := by decide
  have w2 : IntKind.i64.wrap ((1 : Int) + 1) = 2 := by decide
  have w3 : IntKind.i64.wrap ((2 : Int) + 1) = 3 := by decide
  have n0 : nth T_Object.sl [b, o, t] (0 : Int).toNat = b := rfl
  have n1 : nth T_Object.sl [b, o, t] (1 : Int).toNat = o := rfl
  have n2 : nth T_Object.sl [b, o, t] (2 : Int).toNat = t := rfl
  have e3 : fillElems [((0 : Nat), b), ((1 : Nat), o), ((2 : Nat), t)] (List.replicate (3 : Nat) ([] : List T_Object.den)) = [b, o, t] := rfl
  have hf : impl_firstCode.s (fillElems [((0 : Nat), storeFault x), ((1 : Nat), c1), ((2 : Nat), c2), ((3 : Nat), c3)] (List.replicate (4 : Nat) (0 : Int))) = some (fc [storeFault x, c1, c2, c3]) := firstCode_s [storeFault x, c1, c2, c3] (by simp)
  rw [spec_MergeTrees.e, impl_MergeTrees.e, s1, s2, g1, g2, g3]
  simp only [Option.bind_some, hf]
  by_cases h0 : storeFault x = 0
  rotate_left
  · have e : fc [storeFault x, c1, c2, c3] = storeFault x := by rw [fc_cons, if_neg h0]
    rw [e, if_neg h0, if_neg h0]; exact ⟨_, rfl, rfl, smallT_bad _⟩
  have ho := store_ok h0 hx
  rw [if_pos h0, e3, spec_MergeTrees_L6.e, if_pos (by decide), if_pos (by simp), n0, f1, Option.bind_some]
  by_cases h1 : c1 = 0
  rotate_left
  · have e : fc [storeFault x, c1, c2, c3] = c1 := by rw [fc_cons, if_pos h0, fc_cons, if_neg h1]
    rw [e, if_neg h1, if_neg h1]; exact ⟨_, rfl, rfl, smallT_bad _⟩
  rw [if_pos h1, w1, spec_MergeTrees_L6.e, if_pos (by decide), if_pos (by simp), n1, f2, Option.bind_some]
  by_cases h2 : c2 = 0
  rotate_left
  · have e : fc [storeFault x, c1, c2, c3] = c2 := by rw [fc_cons, if_pos h0, fc_cons, if_pos h1, fc_cons, if_neg h2]
    rw [e, if_neg h2, if_neg h2]; exact ⟨_, rfl, rfl, smallT_bad _⟩
  rw [if_pos h2, w2, spec_MergeTrees_L6.e, if_pos (by decide), if_pos (by simp), n2, f3, Option.bind_some]
  by_cases h3 : c3 = 0
  rotate_left
  · have e : fc [storeFault x, c1, c2, c3] = c3 := by rw [fc_cons, if_pos h0, fc_cons, if_pos h1, fc_cons, if_pos h2, fc_cons, if_neg h3]
    rw [e, if_neg h3, if_neg h3]; exact ⟨_, rfl, rfl, smallT_bad _⟩
  have e : fc [storeFault x, c1, c2, c3] = 0 := by rw [fc_cons, if_pos h0, fc_cons, if_pos h1, fc_cons, if_pos h2, fc_cons, if_pos h3]; rfl
  rw [h1] at f1
  rw [h2] at f2
  rw [h3] at f3
  have l1 := files60 f1
  have l2 := files60 f2
  have l3 := files60 f3
  rw [if_pos h3, w3, spec_MergeTrees_L6.e, if_neg (by decide), spec_MergeTrees_L12.e, if_pos (by decide), if_pos (by simp), n0, blobs_s hx b lb, Option.bind_some, e, if_pos rfl, impl_mergeTrees.e, impl_blobs_s ho b lb, Option.bind_some, impl_blobs_s ho o lo, impl_blobs_s ho t lt]
  simp only [Option.bind_some]
  by_cases k1 : hasB x b = true
  rotate_left
  · rw [if_neg k1, if_neg k1]; exact ⟨_, rfl, rfl, smallT_bad _⟩
  rw [if_pos k1, if_pos k1, w1, spec_MergeTrees_L12.e, if_pos (by decide), if_pos (by simp), n1, blobs_s hx o lo, Option.bind_some]
  by_cases k2 : hasB x o = true
  rotate_left
  · rw [if_neg k2, if_neg k2]; exact ⟨_, rfl, rfl, smallT_bad _⟩
  rw [if_pos k2, if_pos k2, w2, spec_MergeTrees_L12.e, if_pos (by decide), if_pos (by simp), n2, blobs_s hx t lt, Option.bind_some]
  by_cases k3 : hasB x t = true
  rotate_left
  · rw [if_neg k3, if_neg k3]; exact ⟨_, rfl, rfl, smallT_bad _⟩
  have hh : Has b o t x := fun f hf => by
    rcases hf with hf | hf | hf
    · exact List.all_eq_true.1 k1 f hf
    · exact List.all_eq_true.1 k2 f hf
    · exact List.all_eq_true.1 k3 f hf
  have hps : (dd (bsort ((b ++ o ++ t).map fpt))).length ≤ 180 := by
    have h := dd_len (bsort ((b ++ o ++ t).map fpt)) _ (Nat.le_refl _)
    rw [List.take_length, (bsort_spec _).2.length_eq, List.length_map, List.length_append, List.length_append] at h
    omega
  rw [if_pos k3, if_pos k3, w3, spec_MergeTrees_L12.e, if_neg (by decide), spec_l11Trees.e, spec_copy5 x hx, clone_o x hx, Option.bind_some, Option.bind_some, if_pos (by simp; omega), if_pos (by simp; omega), if_pos (by simp; omega), List.nil_append, spec_l7paths (b ++ o ++ t) (by simp; omega), e3, impl_paths b o t l1 l2 l3, Option.bind_some, Option.bind_some]
  obtain ⟨A, a1, a2, a3⟩ := trees_first b o t l1 l2 l3 zb zo zt (dd (bsort ((b ++ o ++ t).map fpt))) hps ho hh
  refine ⟨A, ?_, ?_, a3⟩
  · rw [bind_id]; exact a1
  · rw [bind_id]; exact a2
theorem szr_rngT {b : Nat} {s : Int} (hs : s ≤ 1048576) : szr b s ≤ 1048576 := by unfold szr; split <;> omega
theorem mergeTrees_law (x : List T_Object.den) (f1 f2 f3 : List T_Object.den) (g : good (.sl T_Object) x) (g1 : good (.sl T_Object) f1) (g2 : good (.sl T_Object) f2) (g3 : good (.sl T_Object) f3) : Says (fun n => laws_FnExactMergeTrees n x f1 f2 f3) true := by
  refine says_lim ?_
  show laws_FnExactMergeTrees.s x f1 f2 f3 = some true
  have e1 : laws_szObjectS.s x 1048576 = some (szr (bulk (.sl T_Object) x) 1048576) := lim_says (says_laws_szObjectS x 1048576 g (by omega) (by omega))
  rw [laws_FnExactMergeTrees.e, e1, Option.bind_some]
  generalize hA : szr (bulk (.sl T_Object) x) 1048576 = A
  have hA' : A ≤ 1048576 := by rw [← hA]; exact szr_rngT (by omega)
  by_cases h : A < 0
  · rw [if_pos h]
  have e2 : laws_szFileS.s f1 A = some (szr (bulk (.sl T_Object) f1) A) := lim_says (says_laws_szFileS f1 A g1 (by omega) hA')
  rw [if_neg h, e2, Option.bind_some]
  generalize hB : szr (bulk (.sl T_Object) f1) A = B
  have hB' : B ≤ 1048576 := by rw [← hB]; exact szr_rngT hA'
  by_cases h' : B < 0
  · rw [if_pos h']
  have e3 : laws_szFileS.s f2 B = some (szr (bulk (.sl T_Object) f2) B) := lim_says (says_laws_szFileS f2 B g2 (by omega) hB')
  rw [if_neg h', e3, Option.bind_some]
  generalize hC : szr (bulk (.sl T_Object) f2) B = C
  have hC' : C ≤ 1048576 := by rw [← hC]; exact szr_rngT hB'
  by_cases h'' : C < 0
  · rw [if_pos h'']
  have e4 : laws_szFileS.s f3 C = some (szr (bulk (.sl T_Object) f3) C) := lim_says (says_laws_szFileS f3 C g3 (by omega) hC')
  rw [if_neg h'', e4, Option.bind_some]
  by_cases h3 : szr (bulk (.sl T_Object) f3) C < 0
  · rw [if_pos h3]
  have b1 : bulk (.sl T_Object) x ≤ 1048576 := by
    have := szr_pos (b := bulk (.sl T_Object) x) (s := 1048576) (by rw [hA]; exact h); omega
  have b2 : bulk (.sl T_Object) f1 ≤ 1048576 := by have := szr_pos (b := bulk (.sl T_Object) f1) (s := A) (by rw [hB]; exact h'); omega
  have b3 : bulk (.sl T_Object) f2 ≤ 1048576 := by have := szr_pos (b := bulk (.sl T_Object) f2) (s := B) (by rw [hC]; exact h''); omega
  have b4 : bulk (.sl T_Object) f3 ≤ 1048576 := by have := szr_pos h3; omega
  have zf : ∀ l : List T_Object.den, bulk (.sl T_Object) l ≤ 1048576 → ∀ f ∈ l, szF f := fun l hb f hf => by
    have h1 := bulk_mem (t := T_Object) hf
    have h2 : bulk T_Object f = (f.1 : ByteArray).size + (0 + ((f.2.2.1 : ByteArray).size + 0)) := rfl
    have h3 : bulk (.sl T_Object) l = l.length + (l.map (bulk T_Object)).sum := rfl
    exact ⟨by omega, by omega⟩
  have ln : ∀ l : List T_Object.den, bulk (.sl T_Object) l ≤ 1048576 → l.length ≤ 1048576 := fun l hb => by
    have h3 : bulk (.sl T_Object) l = l.length + (l.map (bulk T_Object)).sum := rfl
    omega
  have hx := ln x b1
  have hf1 := ln f1 b2
  have hf2 := ln f2 b3
  have hf3 := ln f3 b4
  have t1 : laws_toObjectS.s x = some x := lim_says (says_laws_toObjectS x (by omega))
  have t2 : laws_toFileS.s f1 = some f1 := lim_says (says_laws_toFileS f1 (by omega))
  have t3 : laws_toFileS.s f2 = some f2 := lim_says (says_laws_toFileS f2 (by omega))
  have t4 : laws_toFileS.s f3 = some f3 := lim_says (says_laws_toFileS f3 (by omega))
  have q1 : laws_eqObjectS.s x x = some true := lim_says (says_laws_eqObjectS x (by omega))
  have q2 : laws_eqFileS.s f1 f1 = some true := lim_says (says_laws_eqFileS f1 (by omega))
  have q3 : laws_eqFileS.s f2 f2 = some true := lim_says (says_laws_eqFileS f2 (by omega))
  have q4 : laws_eqFileS.s f3 f3 = some true := lim_says (says_laws_eqFileS f3 (by omega))
  obtain ⟨r, r1, r2, r3⟩ := mergeTrees_all x hx f1 f2 f3 hf1 hf2 hf3 (zf f1 b2) (zf f2 b3) (zf f3 b4)
  have q5 : laws_eqTreesResult.s r r = some true := lim_says (says_laws_eqTreesResult r r3.bulk)
  have hr1 := r3.st
  have hr2 := r3.ix
  have hr3 := r3.wk
  have m1 : laws_markObjectS.s x 1 = some (((1 + 3 * x.length : Nat) : Int), marks (t := T_Object) 3 mkObject 1 x.length) := lim_says (markObjectS_says x 1 (by omega) (by omega))
  have m2 : laws_markFileS.s f1 ((1 + 3 * x.length : Nat) : Int) = some (((1 + 3 * x.length + 3 * f1.length : Nat) : Int), marks (t := T_Object) 3 mkObject (1 + 3 * x.length) f1.length) := lim_says (markFileS_says f1 (1 + 3 * x.length) (by omega) (by omega))
  have m3 : laws_markFileS.s f2 ((1 + 3 * x.length + 3 * f1.length : Nat) : Int) = some (((1 + 3 * x.length + 3 * f1.length + 3 * f2.length : Nat) : Int), marks (t := T_Object) 3 mkObject (1 + 3 * x.length + 3 * f1.length) f2.length) := lim_says (markFileS_says f2 (1 + 3 * x.length + 3 * f1.length) (by omega) (by omega))
  have m4 : laws_markFileS.s f3 ((1 + 3 * x.length + 3 * f1.length + 3 * f2.length : Nat) : Int) = some (((1 + 3 * x.length + 3 * f1.length + 3 * f2.length + 3 * f3.length : Nat) : Int), marks (t := T_Object) 3 mkObject (1 + 3 * x.length + 3 * f1.length + 3 * f2.length) f3.length) := lim_says (markFileS_says f3 (1 + 3 * x.length + 3 * f1.length + 3 * f2.length) (by omega) (by omega))
  have k1 : laws_markObjectS.s r.2.1 1 = some (((1 + 3 * r.2.1.length : Nat) : Int), marks (t := T_Object) 3 mkObject 1 r.2.1.length) := lim_says (markObjectS_says r.2.1 1 hr1 (by omega))
  have k2 : laws_markEntryS.s r.2.2.1 ((1 + 3 * r.2.1.length : Nat) : Int) = some (((1 + 3 * r.2.1.length + 4 * r.2.2.1.length : Nat) : Int), marks (t := T_Entry) 4 mkEntry (1 + 3 * r.2.1.length) r.2.2.1.length) := lim_says (markEntryS_says r.2.2.1 (1 + 3 * r.2.1.length) hr2 (by omega))
  have k3 : laws_markWorkS.s r.2.2.2.1 ((1 + 3 * r.2.1.length + 4 * r.2.2.1.length : Nat) : Int) = some (((1 + 3 * r.2.1.length + 4 * r.2.2.1.length + 2 * r.2.2.2.1.length : Nat) : Int), marks (t := T_Work) 2 mkWork (1 + 3 * r.2.1.length + 4 * r.2.2.1.length) r.2.2.2.1.length) := lim_says (markWorkS_says r.2.2.2.1 (1 + 3 * r.2.1.length + 4 * r.2.2.1.length) hr3 (by omega))
  have l1 : laws_heldObjectS.s (marks (t := T_Object) 3 mkObject 1 r.2.1.length) 1 = some ((1 + 3 * r.2.1.length : Nat) : Int) := lim_says (heldObjectS_says 1 r.2.1.length hr1 (by omega))
  have l2 : laws_heldEntryS.s (marks (t := T_Entry) 4 mkEntry (1 + 3 * r.2.1.length) r.2.2.1.length) ((1 + 3 * r.2.1.length : Nat) : Int) = some ((1 + 3 * r.2.1.length + 4 * r.2.2.1.length : Nat) : Int) := lim_says (heldEntryS_says (1 + 3 * r.2.1.length) r.2.2.1.length hr2 (by omega))
  have l3 : laws_heldWorkS.s (marks (t := T_Work) 2 mkWork (1 + 3 * r.2.1.length + 4 * r.2.2.1.length) r.2.2.2.1.length) ((1 + 3 * r.2.1.length + 4 * r.2.2.1.length : Nat) : Int) = some ((1 + 3 * r.2.1.length + 4 * r.2.2.1.length + 2 * r.2.2.2.1.length : Nat) : Int) := lim_says (heldWorkS_says (1 + 3 * r.2.1.length + 4 * r.2.2.1.length) r.2.2.2.1.length hr3 (by omega))
  have k5 : laws_markTreesResult.s r.2.1 r.2.2.1 r.2.2.2.1 r.1 1 = some (((1 + 3 * r.2.1.length + 4 * r.2.2.1.length + 2 * r.2.2.2.1.length : Nat) : Int), marks (t := T_Object) 3 mkObject 1 r.2.1.length, marks (t := T_Entry) 4 mkEntry (1 + 3 * r.2.1.length) r.2.2.1.length, marks (t := T_Work) 2 mkWork (1 + 3 * r.2.1.length + 4 * r.2.2.1.length) r.2.2.2.1.length) := by
    rw [laws_markTreesResult.e, k1, Option.bind_some]
    show (laws_markEntryS.s r.2.2.1 ((1 + 3 * r.2.1.length : Nat) : Int)).bind _ = _
    rw [k2, Option.bind_some]
    show (laws_markWorkS.s r.2.2.2.1 ((1 + 3 * r.2.1.length + 4 * r.2.2.1.length : Nat) : Int)).bind _ = _
    rw [k3, Option.bind_some]
  have k6 : laws_heldTreesResult.s (r.1, marks (t := T_Object) 3 mkObject 1 r.2.1.length, marks (t := T_Entry) 4 mkEntry (1 + 3 * r.2.1.length) r.2.2.1.length, marks (t := T_Work) 2 mkWork (1 + 3 * r.2.1.length + 4 * r.2.2.1.length) r.2.2.2.1.length, ()) 1 = some ((1 + 3 * r.2.1.length + 4 * r.2.2.1.length + 2 * r.2.2.2.1.length : Nat) : Int) := by
    rw [laws_heldTreesResult.e]
    show (laws_heldObjectS.s (marks (t := T_Object) 3 mkObject 1 r.2.1.length) 1).bind _ = _
    rw [l1, Option.bind_some, if_neg (by omega)]
    show (laws_heldEntryS.s (marks (t := T_Entry) 4 mkEntry (1 + 3 * r.2.1.length) r.2.2.1.length) ((1 + 3 * r.2.1.length : Nat) : Int)).bind _ = _
    rw [l2, Option.bind_some, if_neg (by omega)]
    show (laws_heldWorkS.s (marks (t := T_Work) 2 mkWork (1 + 3 * r.2.1.length + 4 * r.2.2.1.length) r.2.2.2.1.length) ((1 + 3 * r.2.1.length + 4 * r.2.2.1.length : Nat) : Int)).bind _ = _
    rw [l3, Option.bind_some, if_neg (by omega)]
  have n1 : ¬ ((1 + 3 * x.length + 3 * f1.length + 3 * f2.length + 3 * f3.length : Nat) : Int) < 0 := by omega
  have n2 : ¬ ((1 + 3 * r.2.1.length + 4 * r.2.2.1.length + 2 * r.2.2.2.1.length : Nat) : Int) < 0 := by omega
  rw [if_neg h3]
  simp only [t1, t2, t3, t4, q1, q2, q3, q4, q5, r1, r2, m1, m2, m3, m4, k5, k6, if_neg n1, if_neg n2, Option.bind_some, if_true]
end Go.Proofs.YtmojilihllhadaaGreatDoor.Ev
