/- The law FnExactIsClean: the pure part. -/
import Derived.Test.YtjklgmflillagaaBoA
set_option linter.unusedVariables false
set_option linter.unusedSimpArgs false
namespace Go.Proofs.Ytjklgmflillagaa.Ev
open Go

theorem wrap_succ {i : Nat} (h : i < 4611686018427387904) : IntKind.i64.wrap ((i : Int) + 1) = ((i + 1 : Nat) : Int) := by rw [wrap_id (by omega) (by omega)]; omega
theorem wrap_pred {i : Nat} (h1 : 1 ≤ i) (h : i < 4611686018427387904) : IntKind.i64.wrap ((i : Int) - 1) = ((i - 1 : Nat) : Int) := by rw [wrap_id (by omega) (by omega)]; omega

theorem compact_L9 : ∀ (k i o c j N : Nat) (m : List ByteArray), j + k = c → 1 ≤ j → 1 ≤ i → i < o + j → o + c = N → m.length = N → N < 4611686018427387904 →
    ∃ r, Says (fun n => slices_Compact___string_string__L9 n N (i : Int) o c (j : Int) m) r ∧ r ≠ []
  | 0, i, o, c, j, N, m, hk, hj, hi, hio, hN, hm, hb => by
    refine ⟨_, Says.step (fun n => slices_Compact___string_string__L9_eq n N i o c j m) (Says.neg (by omega) (Says.pos (by omega) (Says.pos (by omega) (.now _)))), ?_⟩
    intro h
    have := congrArg List.length h
    simp [splice] at this
    omega
  | k + 1, i, o, c, j, N, m, hk, hj, hi, hio, hN, hm, hb => by
    have step : ∀ {f : Nat → Option (List ByteArray)} {g : List ByteArray → Prop}, (∃ r, Says f r ∧ g r) → ∀ {f' : Nat → Option (List ByteArray)}, (∀ r, Says f r → Says f' r) → ∃ r, Says f' r ∧ g r := fun ⟨r, h1, h2⟩ _ h => ⟨r, h r h1, h2⟩
    cases hc : (!(ByteArray.toList (nth Ty.str m (o + (j : Int).toNat)) == ByteArray.toList (nth Ty.str m (o + (IntKind.i64.wrap ((j : Int) - 1)).toNat)))) with
    | true =>
      refine step (compact_L9 k (i + 1) o c (j + 1) N (m.set i (nth Ty.str m (o + j))) (by omega) (by omega) (by omega) (by omega) hN (by simpa using hm) hb) fun r hr => ?_
      refine Says.step (fun n => slices_Compact___string_string__L9_eq n N i o c j m) (Says.pos (by omega) (Says.pos (by omega) (Says.pos (by rw [wrap_pred hj (by omega)]; omega) (Says.condT hc (Says.pos (by omega) (Says.pos (by omega) ?_))))))
      rw [wrap_succ (by omega), wrap_succ (by omega)]
      simpa using hr
    | false =>
      refine step (compact_L9 k i o c (j + 1) N m (by omega) (by omega) (by omega) (by omega) hN hm hb) fun r hr => ?_
      refine Says.step (fun n => slices_Compact___string_string__L9_eq n N i o c j m) (Says.pos (by omega) (Says.pos (by omega) (Says.pos (by rw [wrap_pred hj (by omega)]; omega) (Says.condF hc ?_))))
      rw [wrap_succ (by omega)]
      exact hr

theorem compact_L4 : ∀ (k i N : Nat) (m : List ByteArray), i + k = N → 1 ≤ i → m.length = N → N < 4611686018427387904 →
    ∃ r, Says (fun n => slices_Compact___string_string__L4 n N (i : Int) m) r ∧ r ≠ []
  | 0, i, N, m, hk, hi, hm, hb => by
    refine ⟨_, Says.step (fun n => slices_Compact___string_string__L4_eq n N i m) (Says.neg (by omega) (.now _)), ?_⟩
    rintro rfl
    simp at hm; omega
  | k + 1, i, N, m, hk, hi, hm, hb => by
    cases hc : (ByteArray.toList (nth Ty.str m (i : Int).toNat) == ByteArray.toList (nth Ty.str m (IntKind.i64.wrap ((i : Int) - 1)).toNat)) with
    | true =>
      obtain ⟨r, hr, hne⟩ := compact_L9 (N - i - 1) i i (N - i) 1 N m (by omega) (by omega) hi (by omega) (by omega) hm hb
      refine ⟨r, ?_, hne⟩
      refine Says.step (fun n => slices_Compact___string_string__L4_eq n N i m) (Says.pos (by omega) (Says.pos (by omega) (Says.pos (by rw [wrap_pred hi (by omega)]; omega) (Says.condT hc (Says.pos (by omega) ?_)))))
      simpa using hr
    | false =>
      obtain ⟨r, hr, hne⟩ := compact_L4 k (i + 1) N m (by omega) (by omega) hm hb
      refine ⟨r, ?_, hne⟩
      refine Says.step (fun n => slices_Compact___string_string__L4_eq n N i m) (Says.pos (by omega) (Says.pos (by omega) (Says.pos (by rw [wrap_pred hi (by omega)]; omega) (Says.condF hc ?_))))
      rw [wrap_succ (by omega)]
      exact hr

theorem compact_says (m : List ByteArray) (hb : m.length < 4611686018427387904) : ∃ r, Says (fun n => slices_Compact___string_string_ n m) r ∧ (r = [] ↔ m = []) := by
  by_cases h : m.length < 2
  · exact ⟨m, Says.step (fun n => slices_Compact___string_string__eq n m) (Says.pos (by omega) (.now _)), Iff.rfl⟩
  · obtain ⟨r, hr, hne⟩ := compact_L4 (m.length - 1) 1 m.length m (by omega) (by omega) rfl hb
    refine ⟨r, Says.step (fun n => slices_Compact___string_string__eq n m) (Says.neg (by omega) hr), ⟨fun e => absurd e hne, fun e => ?_⟩⟩
    subst e; simp at h

theorem clashes_L3 (l : List T_Entry.den) (hl : l.length ≤ 1048576) : ∀ (k i : Nat) (m : List ByteArray), i + k = l.length → m.length ≤ i →
    ∃ r, Says (fun n => impl_clashesIn_L3 n m.length l (l.length : Int) (i : Int) m) r ∧ (r = [] ↔ m = [] ∧ ∀ x ∈ l.drop i, ¬ x.2.1 > 0)
  | 0, i, m, hk, hm => by
    obtain ⟨r, hr, he⟩ := compact_says m (by omega)
    refine ⟨r, Says.step (fun n => impl_clashesIn_L3_eq n m.length l l.length i m) (Says.neg (by omega) (Says.bind hr (.now _))), ?_⟩
    rw [he, List.drop_eq_nil_of_le (by omega)]
    simp
  | k + 1, i, m, hk, hm => by
    have hi : i < l.length := by omega
    have hn : nth T_Entry l (i : Int).toNat = l[i] := by rw [Int.toNat_natCast]; exact nth_at hi
    have hd : l.drop i = l[i] :: l.drop (i + 1) := List.drop_eq_getElem_cons hi
    by_cases hc : (l[i] : T_Entry.den).2.1 > 0
    · obtain ⟨r, hr, he⟩ := clashes_L3 l hl k (i + 1) (m ++ [l[i].1]) (by omega) (by simp; omega)
      refine ⟨r, ?_, ?_⟩
      · refine Says.step (fun n => impl_clashesIn_L3_eq n m.length l l.length i m) (Says.pos (by omega) (Says.pos (by omega) (Says.pos (by rw [hn]; exact hc) (Says.pos (by simp [fillElems]; omega) ?_))))
        rw [hn, wrap_succ (by omega)]
        simpa [fillElems] using hr
      · rw [he, hd]
        constructor
        · rintro ⟨h, _⟩; simp at h
        · rintro ⟨_, h⟩; exact absurd hc (h _ List.mem_cons_self)
    · obtain ⟨r, hr, he⟩ := clashes_L3 l hl k (i + 1) m (by omega) (by omega)
      refine ⟨r, ?_, ?_⟩
      · refine Says.step (fun n => impl_clashesIn_L3_eq n m.length l l.length i m) (Says.pos (by omega) (Says.pos (by omega) (Says.neg (by rw [hn]; exact hc) ?_)))
        rw [wrap_succ (by omega)]
        exact hr
      · rw [he, hd]
        constructor
        · rintro ⟨h1, h2⟩
          refine ⟨h1, fun x hx => ?_⟩
          rcases List.mem_cons.1 hx with rfl | hx
          · exact hc
          · exact h2 x hx
        · rintro ⟨h1, h2⟩
          exact ⟨h1, fun x hx => h2 x (List.mem_cons_of_mem _ hx)⟩

theorem clashes_says (l : List T_Entry.den) (hl : l.length ≤ 1048576) : ∃ r, Says (fun n => impl_clashesIn n l) r ∧ (r = [] ↔ ∀ x ∈ l, ¬ x.2.1 > 0) := by
  obtain ⟨r, hr, he⟩ := clashes_L3 l hl l.length 0 [] (by omega) (by simp)
  exact ⟨r, Says.step (fun n => impl_clashesIn_eq n l) hr, by simpa using he⟩

theorem spec_clean_L4 (c k : Int) (s : List T_File.den) (l : List T_Entry.den) (ws : List T_Work.den) (hl : l.length ≤ 1048576) : ∀ (q i : Nat), i + q = l.length →
    Says (fun n => spec_IsClean_L4 n (i : Int) c k s l ws) ((l.drop i).all fun x => decide (¬ x.2.1 > 0))
  | 0, i, h => by
    rw [List.drop_eq_nil_of_le (by omega)]
    exact Says.step (fun n => spec_IsClean_L4_eq n i c k s l ws) (Says.neg (by omega) (.now _))
  | q + 1, i, h => by
    have hi : i < l.length := by omega
    have hn : nth T_Entry l (i : Int).toNat = l[i] := by rw [Int.toNat_natCast]; exact nth_at hi
    rw [List.drop_eq_getElem_cons hi, List.all_cons]
    refine Says.step (fun n => spec_IsClean_L4_eq n i c k s l ws) (Says.pos (by omega) (Says.pos (by omega) ?_))
    by_cases hc : (l[i] : T_Entry.den).2.1 > 0
    · have hd : (decide ¬ (l[i] : T_Entry.den).2.1 > 0) = false := decide_eq_false (fun h => h hc)
      rw [hd, Bool.false_and]
      exact Says.pos (by rw [hn]; exact hc) (.now _)
    · have hd : (decide ¬ (l[i] : T_Entry.den).2.1 > 0) = true := decide_eq_true hc
      rw [hd, Bool.true_and]
      refine Says.neg (by rw [hn]; exact hc) ?_
      rw [wrap_succ (by omega)]
      exact spec_clean_L4 c k s l ws hl q (i + 1) (by omega)

theorem isClean_law (x : T_CommitsResult.den) (g : good T_CommitsResult x) : Says (fun n => laws_FnExactIsClean n x) true := by
  refine Says.step (fun n => laws_FnExactIsClean_eq n x) (Says.bind (says_laws_szCommitsResult x 1048576 g (by omega) (by omega)) (Says.cases (fun _ => .now _) fun h => ?_))
  have hb := szr_pos h
  have hb' : bulk T_CommitsResult x ≤ 1048576 := by omega
  have hto := says_laws_toCommitsResult x hb'
  have hl : x.2.2.2.1.length ≤ 1048576 := by
    have h1 : 0 + (0 + (bulk (.sl T_File) x.2.2.1 + (bulk (.sl T_Entry) x.2.2.2.1 + (bulk (.sl T_Work) x.2.2.2.2.1 + 0)))) ≤ 1048576 := hb'
    have h2 : bulk (.sl T_Entry) x.2.2.2.1 = x.2.2.2.1.length + (x.2.2.2.1.map (bulk T_Entry)).sum := rfl
    omega
  obtain ⟨b, hs, hi⟩ : ∃ b, Says (fun n => spec_IsClean n x) b ∧ Says (fun n => impl_IsClean n x) b := by
    by_cases h0 : x.1 = 0
    · obtain ⟨r, hr, he⟩ := clashes_says x.2.2.2.1 hl
      refine ⟨x.2.2.2.1.all fun y => decide (¬ y.2.1 > 0), ?_, ?_⟩
      · refine Says.step (fun n => spec_IsClean_eq n x) (Says.condF (by simp [h0]) ?_)
        exact spec_clean_L4 _ _ _ x.2.2.2.1 _ hl x.2.2.2.1.length 0 (by omega)
      · refine Says.step (fun n => impl_IsClean_eq n x) (Says.condT (by simp [h0]) (Says.bind hr ?_))
        have : (((r.length : Nat) : Int) == 0) = (x.2.2.2.1.all fun y => decide (¬ y.2.1 > 0)) := by
          rw [Bool.eq_iff_iff]
          simp only [beq_iff_eq, List.all_eq_true, decide_eq_true_eq]
          rw [← he]
          constructor
          · intro h; exact List.length_eq_zero_iff.1 (by omega)
          · rintro rfl; rfl
        rw [this]
        exact .now _
    · exact ⟨false, Says.step (fun n => spec_IsClean_eq n x) (Says.condT (by simp [h0]) (.now _)), Says.step (fun n => impl_IsClean_eq n x) (Says.condF (by simp [h0]) (.now _))⟩
  refine Says.bind hto (Says.bind hs (Says.bind hto (Says.bind hi (Says.condF (by simp) (Says.bind hto (Says.bind (says_laws_eqCommitsResult x (by omega)) (Says.condF rfl (.now _))))))))
end Go.Proofs.Ytjklgmflillagaa.Ev
