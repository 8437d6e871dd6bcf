/- Entries put in order: by insertion, by the library's sort. -/
import Derived.Test.YthooeghlplhlnaaDoorPfIndex
set_option linter.unusedVariables false
set_option linter.unusedSimpArgs false
namespace Go.Proofs.YthooeghlplhlnaaDoor.Ev
open Go

theorem ltE_trans {x y z : T_Entry.den} (h : ltE x y) (k : ltE y z) : ltE x z := by
  rcases ltE_cot z h with h1 | h1
  · exact h1
  · exact absurd h1 (ltE_asymm k)
theorem le_trans {x y z : T_Entry.den} (h : ¬ ltE y x) (k : ¬ ltE z y) : ¬ ltE z x := fun hh => by
  rcases ltE_cot y hh with h1 | h1
  · exact k h1
  · exact h h1
def WS (l : List T_Entry.den) : Prop := l.Pairwise fun x y => ¬ ltE y x
theorem uniq : ∀ (a b : List T_Entry.den), a.Perm b → WS a → WS b → (∀ x ∈ a, ∀ y ∈ a, x.1 = y.1 → stg x = stg y → x = y) → a = b
  | [], b, h, _, _, _ => (List.Perm.nil_eq h)
  | x :: a, [], h, _, _, _ => absurd h.length_eq (by simp)
  | x :: a, y :: b, h, ha, hb, hk => by
    have hxy : x = y := by
      apply Classical.byContradiction
      intro hne
      have hx : x ∈ b := by
        rcases List.mem_cons.1 (h.mem_iff.1 (List.mem_cons_self ..)) with e | e
        · exact absurd e hne
        · exact e
      have hy : y ∈ a := by
        rcases List.mem_cons.1 (h.mem_iff.2 (List.mem_cons_self ..)) with e | e
        · exact absurd e.symm hne
        · exact e
      have h1 := (List.pairwise_cons.1 ha).1 y hy
      have h2 := (List.pairwise_cons.1 hb).1 x hx
      obtain ⟨e1, e2⟩ := ltE_tri h2 h1
      exact hne (hk x (by simp) y (by simp [hy]) e1 e2)
    subst hxy
    have := uniq a b (List.Perm.cons_inv h) (List.pairwise_cons.1 ha).2 (List.pairwise_cons.1 hb).2 (fun x hx y hy => hk x (by simp [hx]) y (by simp [hy]))
    rw [this]

/-! #### the insertion -/
theorem put_eq (l : List T_Entry.den) (e : T_Entry.den) (hl : l.length ≤ 1048576) (i : Nat) (hi : i ≤ l.length) :
    (i = 0 ∨ (∃ h : i - 1 < l.length, ¬ ltE e l[i - 1]) → spec_l10Put_L2.s l e i = some (l.take i ++ ([e] ++ l.drop i))) ∧
    ((h : i - 1 < l.length) → 0 < i → ltE e l[i - 1] → spec_l10Put_L2.s l e i = spec_l10Put_L2.s l e ((i - 1 : Nat) : Int)) := by
  have n0 : nth T_Entry [e] (nat_lit 0) = e := rfl
  have he : (e.fst, e.snd.fst, e.snd.snd.fst, e.snd.snd.snd.fst, ()) = e := rfl
  have E := spec_l10Put_L2.e l e i
  have c1 : (0 : Int) ≤ (i : Int) ∧ (i : Int) ≤ (l.length : Int) := by omega
  have c2 : 0 + (l.take i).length < 4294967296 := by simp; omega
  have c3 : (l.take i).length + [e].length < 4294967296 := by simp; omega
  have c4 : (l.take i ++ [e]).length + (l.drop i).length < 4294967296 := by simp; omega
  simp only [n0, he, Int.toNat_natCast, fill1, List.drop_zero, List.nil_append, List.take_length, if_pos c1, if_pos c2, if_pos c3, if_pos c4] at E
  by_cases h0 : 0 < i
  · have hi1 : i - 1 < l.length := by omega
    have c5 : (0 : Int) ≤ ((i - 1 : Nat) : Int) ∧ ((i - 1 : Nat) : Int) < (l.length : Int) := by omega
    have c6 : (i : Int) > 0 := by omega
    simp only [wrap_pred (show 1 ≤ i by omega) (show i < 4611686018427387904 by omega), Int.toNat_natCast, nth_at (t := T_Entry) hi1, if_pos c5, if_pos c6] at E
    rw [E]
    constructor
    · rintro (h | ⟨_, hn⟩)
      · omega
      · by_cases hle : BLt (l[i - 1] : T_Entry.den).1 e.1 ∨ (l[i - 1] : T_Entry.den).1 = e.1
        · rw [if_pos hle]
          by_cases heq : (l[i - 1] : T_Entry.den).1 = e.1
          · have hs : ¬ stg l[i - 1] > stg e := fun hh => hn (.inr ⟨heq.symm, hh⟩)
            rw [if_pos heq, if_neg hs, List.append_assoc]
          · rw [if_neg heq, List.append_assoc]
        · exact absurd (.inl (not_le hle)) hn
    · intro _ _ hlt
      by_cases hle : BLt (l[i - 1] : T_Entry.den).1 e.1 ∨ (l[i - 1] : T_Entry.den).1 = e.1
      · rw [if_pos hle]
        rcases hlt with hlt | ⟨heq, hs⟩
        · exfalso
          rcases hle with hle | hle
          · rw [blt_iff] at hle
            have := cmp_trans hlt hle
            rw [cmp_self] at this; omega
          · rw [hle, cmp_self] at hlt; omega
        · have hs : stg l[i - 1] > stg e := hs
          rw [if_pos heq.symm, if_pos hs]
      · rw [if_neg hle]
  · have : i = 0 := by omega
    subst this
    constructor
    · intro _
      rw [E, if_neg (by omega), List.append_assoc]
    · intro _ h; omega
theorem put_loop (l : List T_Entry.den) (e : T_Entry.den) (hl : l.length ≤ 1048576) : ∀ (i : Nat), i ≤ l.length → (∀ j, i ≤ j → (h : j < l.length) → ltE e l[j]) →
    ∃ a, a ≤ l.length ∧ spec_l10Put_L2.s l e i = some (l.take a ++ ([e] ++ l.drop a)) ∧ (∀ j, a ≤ j → (h : j < l.length) → ltE e l[j]) ∧ (a = 0 ∨ ∃ h : a - 1 < l.length, ¬ ltE e l[a - 1])
  | 0, hi, hj => ⟨0, by omega, (put_eq l e hl 0 hi).1 (.inl rfl), hj, .inl rfl⟩
  | i + 1, hi, hj => by
    have hi1 : i + 1 - 1 < l.length := by omega
    by_cases hc : ltE e l[i + 1 - 1]
    · rw [(put_eq l e hl (i + 1) hi).2 hi1 (by omega) hc]
      exact put_loop l e hl i (by omega) fun j h1 h2 => by
        by_cases hji : j = i
        · subst hji; exact hc
        · exact hj j (by omega) h2
    · exact ⟨i + 1, hi, (put_eq l e hl (i + 1) hi).1 (.inr ⟨hi1, hc⟩), hj, .inr ⟨hi1, hc⟩⟩
theorem put_s (l : List T_Entry.den) (e : T_Entry.den) (hl : l.length ≤ 1048576) (hs : WS l) : ∃ r, spec_l10Put.s l e = some r ∧ WS r ∧ r.Perm (e :: l) := by
  rw [spec_l10Put.e]
  show ∃ r, spec_l10Put_L2.s l e _ = some r ∧ _
  obtain ⟨a, ha, h1, h2, h3⟩ := put_loop l e hl l.length (by omega) fun j h1 h2 => by omega
  refine ⟨_, h1, ?_, ?_⟩
  · have hlo : ∀ j, j < a → (h : j < l.length) → ¬ ltE e l[j] := by
      intro j hj hjl
      rcases h3 with h3 | ⟨h3, h4⟩
      · omega
      · by_cases hja : j = a - 1
        · subst hja; exact h4
        · exact le_trans (List.pairwise_iff_getElem.1 hs j (a - 1) hjl h3 (by omega)) h4
    have hp := hs
    unfold WS at hp ⊢
    rw [← List.take_append_drop a l, List.pairwise_append] at hp
    rw [List.pairwise_append, List.singleton_append, List.pairwise_cons]
    refine ⟨hp.1, ⟨fun x hx => ?_, hp.2.1⟩, fun x hx y hy => ?_⟩
    · obtain ⟨j, hj, rfl⟩ := List.getElem_of_mem hx
      rw [List.getElem_drop]
      exact ltE_asymm (h2 (a + j) (by omega) (by simp at hj; omega))
    · rcases List.mem_cons.1 hy with rfl | hy
      · obtain ⟨j, hj, rfl⟩ := List.getElem_of_mem hx
        rw [List.getElem_take]
        exact hlo j (by simp at hj; omega) _
      · exact hp.2.2 x hx y hy
  · have : (l.take a ++ ([e] ++ l.drop a)).Perm (e :: (l.take a ++ l.drop a)) := List.perm_middle
    rwa [List.take_append_drop] at this

def sw (e : T_Entry.den) : T_Entry.den := if stg e > 1 then (e.1, IntKind.i64.wrap (5 - stg e), e.2.2) else e
theorem spec_swap_loop (l : List T_Entry.den) (hl : l.length ≤ 1048576) : ∀ (k i : Nat) (m : List T_Entry.den), i + k = l.length → WS m → m.Perm ((l.take i).map sw) →
    ∃ r, spec_l10Swap_L3.s l m.length i m = some r ∧ WS r ∧ r.Perm (l.map sw)
  | 0, i, m, h, hs, hp => ⟨m, by rw [spec_l10Swap_L3.e, if_neg (by omega)], hs, by rwa [List.take_of_length_le (by omega)] at hp⟩
  | k + 1, i, m, h, hs, hp => by
    have hi : i < l.length := by omega
    have hml : m.length = i := by rw [hp.length_eq]; simp; omega
    obtain ⟨r, h1, h2, h3⟩ := put_s m (sw l[i]) (by omega) hs
    have hp' : r.Perm ((l.take (i + 1)).map sw) := by
      rw [List.take_succ_eq_append_getElem hi, List.map_append]
      refine h3.trans ?_
      refine (List.Perm.cons _ hp).trans ?_
      exact (List.perm_append_singleton _ _).symm
    have c1 : ((i : Nat) : Int) < (l.length : Int) := by omega
    have c2 : 0 ≤ ((i : Nat) : Int) ∧ ((i : Nat) : Int) < (l.length : Int) := by omega
    have hib : i < 4611686018427387904 := by omega
    rw [spec_l10Swap_L3.e, if_pos c1, if_pos c2]
    simp only [Int.toNat_natCast, nth_at (t := T_Entry) hi, wrap_succ hib]
    have rec_ := spec_swap_loop l hl k (i + 1) r (by omega) h2 hp'
    by_cases hg : stg l[i] > 1
    · have e1 : spec_l10Put.s m ((l[i] : T_Entry.den).1, IntKind.i64.wrap (5 - stg l[i]), (l[i] : T_Entry.den).2.2) = some r := by
        have : sw l[i] = ((l[i] : T_Entry.den).1, IntKind.i64.wrap (5 - stg l[i]), (l[i] : T_Entry.den).2.2) := if_pos hg
        rw [← this]; exact h1
      rw [if_pos hg, e1, Option.bind_some]
      exact rec_
    · have e1 : spec_l10Put.s m l[i] = some r := by
        have : sw l[i] = l[i] := if_neg hg
        rw [← this]; exact h1
      rw [if_neg hg, e1, Option.bind_some]
      exact rec_

/-! #### the library's sort -/
theorem clone_s (l : List T_Entry.den) (hl : l.length ≤ 1048576) : slices_Clone___impl_Entry_impl_Entry_.s l = some l := by
  rw [slices_Clone___impl_Entry_impl_Entry_.e]
  by_cases h : l.length = 0
  · have : l = [] := List.eq_nil_of_length_eq_zero h
    subst this
    rw [if_pos h]
    unfold joinO
    exact if_pos rfl
  · rw [if_neg h, if_pos (by omega), List.nil_append]
theorem impl_swap_loop (l : List T_Entry.den) (hl : l.length ≤ 1048576) : ∀ (k i : Nat), i + k = l.length →
    impl_swapStages_L3.s l.length l.length (l.length : Int) (i : Int) ((l.take i).map sw ++ l.drop i) = some (sortBy T_Entry cf_Entry (l.map sw))
  | 0, i, h => by
    rw [impl_swapStages_L3.e, if_neg (by omega), List.take_of_length_le (by omega), List.drop_eq_nil_of_le (by omega), List.append_nil, if_pos (by rw [List.length_map]; omega)]
  | k + 1, i, h => by
    have hi : i < l.length := by omega
    have hlen : i < ((l.take i).map sw ++ l.drop i).length := by simp; omega
    have hA : ((l.take i).map sw).length = i := by simp; omega
    have hn : nth T_Entry ((l.take i).map sw ++ l.drop i) i = l[i] := by
      rw [nth_at (t := T_Entry) hlen, List.getElem_append_right (by omega)]
      simp only [hA, Nat.sub_self, List.getElem_drop, Nat.add_zero]
    have c1 : ((i : Nat) : Int) < (l.length : Int) := by omega
    have c2 : 0 ≤ ((i : Nat) : Int) ∧ ((i : Nat) : Int) < (l.length : Int) := by omega
    have hib : i < 4611686018427387904 := by omega
    rw [impl_swapStages_L3.e, if_pos c1, if_pos c2]
    simp only [Int.toNat_natCast, hn, wrap_succ hib, if_pos c2]
    have rec_ := impl_swap_loop l hl k (i + 1) (by omega)
    rw [List.take_succ_eq_append_getElem hi, List.map_append, List.append_assoc] at rec_
    by_cases hg : stg l[i] ≥ 2
    · have hsw : sw l[i] = ((l[i] : T_Entry.den).1, IntKind.i64.wrap (5 - stg l[i]), (l[i] : T_Entry.den).2.2) := if_pos (by omega)
      rw [if_pos hg]
      have hset : ((l.take i).map sw ++ l.drop i).set i ((l[i] : T_Entry.den).1, IntKind.i64.wrap (5 - stg l[i]), (l[i] : T_Entry.den).2.2.1, (l[i] : T_Entry.den).2.2.2.1, ()) = (l.take i).map sw ++ ([l[i]].map sw ++ l.drop (i + 1)) := by
        rw [List.set_append, if_neg (by omega), hA, Nat.sub_self, List.drop_eq_getElem_cons hi, List.set_cons_zero, List.map_cons, hsw]
        rfl
      rw [← rec_, ← hset]
    · have hsw : sw l[i] = l[i] := if_neg (by omega)
      rw [if_neg hg, ← rec_, List.map_cons, hsw, List.map_nil, List.singleton_append, ← List.drop_eq_getElem_cons hi]
theorem sort_ws (l : List T_Entry.den) : WS (sortBy T_Entry cf_Entry l) ∧ (sortBy T_Entry cf_Entry l).Perm l := by
  obtain ⟨h1, h2⟩ := sortBy_spec l
  refine ⟨?_, h1⟩
  unfold WS
  rw [List.pairwise_iff_getElem]
  intro i j hi hj hij hlt
  refine h2 i j hi hj hij ((cf_lt _ _).2 ?_)
  rcases hlt with hlt | ⟨e, hlt⟩
  · exact .inl hlt
  · exact .inr ⟨by rw [e], hlt⟩

/-! #### the law's own -/
theorem chain {l : List T_Entry.den} (ho : OkIx l l.length) : ∀ (d j : Nat), (h : j + d + 1 < l.length) → ltE l[j] l[j + d + 1]
  | 0, j, h => (ho.beh j h h).1
  | d + 1, j, h => ltE_trans (chain ho d j (by omega)) (ho.beh (j + d + 1) h h).1
theorem key_inj {l : List T_Entry.den} (ho : OkIx l l.length) : ∀ x ∈ l, ∀ y ∈ l, x.1 = y.1 → stg x = stg y → x = y := by
  intro x hx y hy h1 h2
  obtain ⟨i, hi, rfl⟩ := List.getElem_of_mem hx
  obtain ⟨j, hj, rfl⟩ := List.getElem_of_mem hy
  have no : ∀ {a b : T_Entry.den}, ltE a b → a.1 = b.1 → stg a = stg b → False := by
    rintro a b (h | ⟨_, h⟩) e1 e2
    · rw [e1, cmp_self] at h; omega
    · omega
  rcases Nat.lt_trichotomy i j with h | h | h
  · have := chain ho (j - i - 1) i (by omega)
    simp only [show i + (j - i - 1) + 1 = j by omega] at this
    exact (no this h1 h2).elim
  · subst h; rfl
  · have := chain ho (i - j - 1) j (by omega)
    simp only [show j + (i - j - 1) + 1 = i by omega] at this
    exact (no this h1.symm h2.symm).elim
theorem sw_stg {e : T_Entry.den} (h0 : 0 ≤ stg e) (h3 : stg e ≤ 3) : (sw e).1 = e.1 ∧ stg (sw e) = if stg e > 1 then 5 - stg e else stg e := by
  unfold sw
  by_cases h : stg e > 1
  · rw [if_pos h, if_pos h]
    refine ⟨rfl, ?_⟩
    show IntKind.i64.wrap (5 - stg e) = _
    rw [wrap_id (by omega) (by omega)]
  · rw [if_neg h, if_neg h]; exact ⟨rfl, rfl⟩
theorem sw_inj {l : List T_Entry.den} (ho : OkIx l l.length) : ∀ x ∈ l.map sw, ∀ y ∈ l.map sw, x.1 = y.1 → stg x = stg y → x = y := by
  intro x hx y hy h1 h2
  obtain ⟨a, ha, rfl⟩ := List.mem_map.1 hx
  obtain ⟨b, hb, rfl⟩ := List.mem_map.1 hy
  have ra : 0 ≤ stg a ∧ stg a ≤ 3 := by obtain ⟨i, hi, rfl⟩ := List.getElem_of_mem ha; exact ho.st i hi hi
  have rb : 0 ≤ stg b ∧ stg b ≤ 3 := by obtain ⟨i, hi, rfl⟩ := List.getElem_of_mem hb; exact ho.st i hi hi
  obtain ⟨a1, a2⟩ := sw_stg ra.1 ra.2
  obtain ⟨b1, b2⟩ := sw_stg rb.1 rb.2
  rw [a1, b1] at h1
  rw [a2, b2] at h2
  have : stg a = stg b := by
    split at h2 <;> split at h2 <;> omega
  rw [key_inj ho a ha b hb h1 this]
theorem sw_bulk (e : T_Entry.den) : bulk T_Entry (sw e) = bulk T_Entry e := by
  unfold sw
  split <;> rfl
theorem perm_bulk {a b : List T_Entry.den} (h : a.Perm b) : bulk (.sl T_Entry) a = bulk (.sl T_Entry) b := by
  have e : ∀ m : List T_Entry.den, bulk (.sl T_Entry) m = m.length + (m.map (bulk T_Entry)).sum := fun _ => rfl
  rw [e, e, h.length_eq, (h.map _).sum_nat]
theorem map_bulk (l : List T_Entry.den) : bulk (.sl T_Entry) (l.map sw) = bulk (.sl T_Entry) l := by
  have e : ∀ m : List T_Entry.den, bulk (.sl T_Entry) m = m.length + (m.map (bulk T_Entry)).sum := fun _ => rfl
  rw [e, e, List.length_map, List.map_map]
  congr 3
  funext x
  exact sw_bulk x
theorem swap_all (l : List T_Entry.den) (hl : l.length ≤ 1048576) (hp : ∀ e ∈ l, (e.1 : ByteArray).size ≤ 1048576) :
    ∃ r : T_EntriesResult.den, spec_SwapStages.s l = some r ∧ impl_SwapStages.s l = some r ∧ bulk (.sl T_Entry) r.2.2.1 ≤ bulk (.sl T_Entry) l := by
  obtain ⟨c, h1, h2, h3⟩ := indexFault_all l hl hp
  rw [spec_SwapStages.e, impl_SwapStages.e, h1, h2, Option.bind_some, Option.bind_some]
  by_cases h0 : c = 0
  · obtain ⟨ho, _⟩ := h3 h0
    rw [if_pos h0, if_pos h0, spec_l10Swap.e, impl_swapStages.e, clone_s l hl, Option.bind_some]
    obtain ⟨r, r1, r2, r3⟩ := spec_swap_loop l hl l.length 0 [] (by omega) List.Pairwise.nil (by simp)
    have r1 : spec_l10Swap_L3.s l 0 (0 : Int) [] = some r := r1
    have q1 := impl_swap_loop l hl l.length 0 (by omega)
    simp only [List.take_zero, List.map_nil, List.drop_zero, List.nil_append] at q1
    have q1 : impl_swapStages_L3.s l.length l.length (l.length : Int) (0 : Int) l = _ := q1
    obtain ⟨s1, s2⟩ := sort_ws (l.map sw)
    have he := uniq r _ (r3.trans s2.symm) r2 s1 (fun x hx y hy => sw_inj ho x (r3.mem_iff.1 hx) y (r3.mem_iff.1 hy))
    rw [r1, q1, ← he]
    refine ⟨_, rfl, rfl, ?_⟩
    show bulk (.sl T_Entry) r ≤ _
    rw [perm_bulk r3, map_bulk]
    exact Nat.le_refl _
  · rw [if_neg h0, if_neg h0]
    exact ⟨_, rfl, rfl, Nat.zero_le _⟩
end Go.Proofs.YthooeghlplhlnaaDoor.Ev
