/- The law FnExactPreOf: the pure part. -/
import Derived.Test.YtmojilihllhadaaGreatDoorPfPre
import Derived.Test.YtmojilihllhadaaGreatDoorPfSizes
set_option linter.unusedVariables false
set_option linter.unusedSimpArgs false
namespace Go.Proofs.YtmojilihllhadaaGreatDoor.Ev
open Go

theorem three_norm (x y z : ByteArray) : ∃ r, three x y z = some r ∧ (if (isBin x || isBin y || isBin z) = true then some ((1 : Int), noS, ()) else impl_NormalText.s x y z) = some r := by
  obtain ⟨r, r1, r2⟩ := normal_all x y z
  unfold three
  cases isBin x with
  | true => exact ⟨_, rfl, rfl⟩
  | false => cases isBin y with
    | true => exact ⟨_, rfl, rfl⟩
    | false => cases isBin z with
      | true => exact ⟨_, rfl, rfl⟩
      | false => exact ⟨r, by simpa using r1, by simpa using r2⟩
theorem toF_nz {e : T_Entry.den} (h : isM e.2.2.1 = true) : ¬ zeroF (toF e) := by
  rintro ⟨_, h2, _⟩
  have h2 : e.2.2.1 = 0 := h2
  rw [h2] at h
  cases h
def σ0 : PS := ⟨false, false, [noS, noS, noS, noS], [false, false, false, false]⟩
theorem txF_toF (s : List T_Object.den) {e : T_Entry.den} (h : ¬ zeroF (toF e)) : txF s (toF e) = (getO s 1 e.2.2.2.1).1 := by unfold txF; rw [if_neg h]; rfl
theorem txF_zF (s : List T_Object.den) : txF s zF = noS := by unfold txF; rw [if_pos zeroF_z]
theorem hasB_cons (s : List T_Object.den) (f : T_File.den) (r : List T_File.den) : hasB s (f :: r) = ((getO s 1 f.2.2.1).2 && hasB s r) := rfl
theorem someL_nz {f : T_File.den} (h : ¬ zeroF f) (r : List T_File.den) : someL (f :: r) = f :: someL r := by unfold someL; rw [List.flatMap_cons, decide_eq_false h]; rfl
theorem someL_z {f : T_File.den} (h : zeroF f) (r : List T_File.den) : someL (f :: r) = someL r := by unfold someL; rw [List.flatMap_cons, decide_eq_true h]; rfl

theorem few_pre {s : List T_Object.den} {M : List T_Entry.den} (hf : Few M) (hm : ∀ e ∈ M, isM e.2.2.1 = true) :
    ∃ r, preS s ((M.find? fun e => decide (stg e = 1)).elim zF toF) ((M.find? fun e => decide (stg e = 2)).elim zF toF) ((M.find? fun e => decide (stg e = 3)).elim zF toF) = some r ∧ fin4 (M.foldl (stp s) σ0) = some r := by
  have no4 : ∀ (σ : PS), (nth .bool σ.Hs 2 = false ∨ nth .bool σ.Hs 3 = false) → fin4 σ = some ((4 : Int), noS, ()) := by
    intro σ h
    unfold fin4
    rw [if_neg]
    rintro ⟨h1, h2, _⟩
    rcases h with h | h
    · rw [h] at h1; cases h1
    · rw [h] at h2; cases h2
  have noS1 : ∀ a b c, (zeroF b ∨ zeroF c) → preS s a b c = some ((4 : Int), noS, ()) := by
    intro a b c h
    unfold preS
    by_cases hb : zeroF b
    · rw [if_pos hb]
    · rw [if_neg hb, if_pos (h.resolve_left hb)]
  cases hf with
  | nil => exact ⟨_, noS1 _ _ _ (.inl zeroF_z), no4 _ (.inl rfl)⟩
  | one a h =>
    refine ⟨_, noS1 _ _ _ ?_, no4 _ ?_⟩
    · by_cases h2 : stg a = 2
      · right; simp [h2, zeroF_z]
      · left; simp [h2, zeroF_z]
    · simp only [List.foldl_cons, List.foldl_nil, stp, σ0]
      by_cases h2 : stg a = 2
      · right; rw [h2]; rfl
      · left
        have : (stg a).toNat = 0 ∨ (stg a).toNat = 1 ∨ (stg a).toNat = 3 := by omega
        rcases this with h | h | h <;> rw [h] <;> rfl
  | two a b h =>
    have ma := toF_nz (hm a (by simp))
    have mb := toF_nz (hm b (by simp))
    have : (stg a = 1 ∧ stg b = 2) ∨ (stg a = 1 ∧ stg b = 3) ∨ (stg a = 2 ∧ stg b = 3) := by omega
    rcases this with ⟨h1, h2⟩ | ⟨h1, h2⟩ | ⟨h1, h2⟩
    · refine ⟨_, noS1 _ _ _ (.inr ?_), no4 _ (.inr ?_)⟩
      · simp [h1, h2, zeroF_z]
      · simp only [List.foldl_cons, List.foldl_nil, stp, σ0, h1, h2]; rfl
    · refine ⟨_, noS1 _ _ _ (.inl ?_), no4 _ (.inl ?_)⟩
      · simp [h1, h2, zeroF_z]
      · simp only [List.foldl_cons, List.foldl_nil, stp, σ0, h1, h2]; rfl
    · obtain ⟨r, r1, r2⟩ := three_norm noS (getO s 1 a.2.2.2.1).1 (getO s 1 b.2.2.2.1).1
      have f1 : (([a, b].find? fun e => decide (stg e = 1)).elim zF toF) = zF := by simp [h1, h2]
      have f2 : (([a, b].find? fun e => decide (stg e = 2)).elim zF toF) = toF a := by simp [h1, h2]
      have f3 : (([a, b].find? fun e => decide (stg e = 3)).elim zF toF) = toF b := by simp [h1, h2]
      rw [f1, f2, f3]
      unfold preS
      rw [if_neg ma, if_neg mb, someL_z zeroF_z, someL_nz ma, someL_nz mb, hasB_cons, hasB_cons, txF_toF s ma, txF_toF s mb, txF_zF]
      have e3 : hasB s (someL []) = true := rfl
      rw [e3, Bool.and_true]
      have eF : [a, b].foldl (stp s) σ0 = ⟨false || !(getO s 1 a.2.2.2.1).2 || !(getO s 1 b.2.2.2.1).2, false || isBin (getO s 1 a.2.2.2.1).1 || isBin (getO s 1 b.2.2.2.1).1, [noS, noS, (getO s 1 a.2.2.2.1).1, (getO s 1 b.2.2.2.1).1], [false, false, true, true]⟩ := by
        simp only [List.foldl_cons, List.foldl_nil, stp, σ0, h1, h2]; rfl
      rw [eF]
      have ia : (getO s 1 (toF a).2.2.1).2 = (getO s 1 a.2.2.2.1).2 := rfl
      have ib : (getO s 1 (toF b).2.2.1).2 = (getO s 1 b.2.2.2.1).2 := rfl
      rw [ia, ib]
      unfold fin4
      have n2 : nth .bool [false, false, true, true] 2 = true := rfl
      have n3 : nth .bool [false, false, true, true] 3 = true := rfl
      have q1 : nth .str [noS, noS, (getO s 1 a.2.2.2.1).1, (getO s 1 b.2.2.2.1).1] 1 = noS := rfl
      have q2 : nth .str [noS, noS, (getO s 1 a.2.2.2.1).1, (getO s 1 b.2.2.2.1).1] 2 = (getO s 1 a.2.2.2.1).1 := rfl
      have q3 : nth .str [noS, noS, (getO s 1 a.2.2.2.1).1, (getO s 1 b.2.2.2.1).1] 3 = (getO s 1 b.2.2.2.1).1 := rfl
      simp only [n2, n3, q1, q2, q3]
      rw [isBin_no] at r2
      cases (getO s 1 a.2.2.2.1).2 <;> cases (getO s 1 b.2.2.2.1).2
      · exact ⟨_, rfl, rfl⟩
      · exact ⟨_, rfl, rfl⟩
      · exact ⟨_, rfl, rfl⟩
      · exact ⟨r, by simpa using r1, by simpa using r2⟩
  | three a b c h =>
    obtain ⟨h1, h2, h3⟩ := h
    have ma := toF_nz (hm a (by simp))
    have mb := toF_nz (hm b (by simp))
    have mc := toF_nz (hm c (by simp))
    obtain ⟨r, r1, r2⟩ := three_norm (getO s 1 a.2.2.2.1).1 (getO s 1 b.2.2.2.1).1 (getO s 1 c.2.2.2.1).1
    have f1 : (([a, b, c].find? fun e => decide (stg e = 1)).elim zF toF) = toF a := by simp [h1]
    have f2 : (([a, b, c].find? fun e => decide (stg e = 2)).elim zF toF) = toF b := by simp [h1, h2]
    have f3 : (([a, b, c].find? fun e => decide (stg e = 3)).elim zF toF) = toF c := by simp [h1, h2, h3]
    rw [f1, f2, f3]
    unfold preS
    rw [if_neg mb, if_neg mc, someL_nz ma, someL_nz mb, someL_nz mc, hasB_cons, hasB_cons, hasB_cons, txF_toF s ma, txF_toF s mb, txF_toF s mc]
    have e3 : hasB s (someL []) = true := rfl
    rw [e3, Bool.and_true]
    have eF : [a, b, c].foldl (stp s) σ0 = ⟨false || !(getO s 1 a.2.2.2.1).2 || !(getO s 1 b.2.2.2.1).2 || !(getO s 1 c.2.2.2.1).2, false || isBin (getO s 1 a.2.2.2.1).1 || isBin (getO s 1 b.2.2.2.1).1 || isBin (getO s 1 c.2.2.2.1).1,
        [noS, (getO s 1 a.2.2.2.1).1, (getO s 1 b.2.2.2.1).1, (getO s 1 c.2.2.2.1).1], [false, true, true, true]⟩ := by
      simp only [List.foldl_cons, List.foldl_nil, stp, σ0, h1, h2, h3]; rfl
    rw [eF]
    have ia : (getO s 1 (toF a).2.2.1).2 = (getO s 1 a.2.2.2.1).2 := rfl
    have ib : (getO s 1 (toF b).2.2.1).2 = (getO s 1 b.2.2.2.1).2 := rfl
    have ic : (getO s 1 (toF c).2.2.1).2 = (getO s 1 c.2.2.2.1).2 := rfl
    rw [ia, ib, ic]
    unfold fin4
    have n2 : nth .bool [false, true, true, true] 2 = true := rfl
    have n3 : nth .bool [false, true, true, true] 3 = true := rfl
    have q1 : nth .str [noS, (getO s 1 a.2.2.2.1).1, (getO s 1 b.2.2.2.1).1, (getO s 1 c.2.2.2.1).1] 1 = (getO s 1 a.2.2.2.1).1 := rfl
    have q2 : nth .str [noS, (getO s 1 a.2.2.2.1).1, (getO s 1 b.2.2.2.1).1, (getO s 1 c.2.2.2.1).1] 2 = (getO s 1 b.2.2.2.1).1 := rfl
    have q3 : nth .str [noS, (getO s 1 a.2.2.2.1).1, (getO s 1 b.2.2.2.1).1, (getO s 1 c.2.2.2.1).1] 3 = (getO s 1 c.2.2.2.1).1 := rfl
    simp only [n2, n3, q1, q2, q3]
    cases (getO s 1 a.2.2.2.1).2 <;> cases (getO s 1 b.2.2.2.1).2 <;> cases (getO s 1 c.2.2.2.1).2
    · exact ⟨_, rfl, rfl⟩
    · exact ⟨_, rfl, rfl⟩
    · exact ⟨_, rfl, rfl⟩
    · exact ⟨_, rfl, rfl⟩
    · exact ⟨_, rfl, rfl⟩
    · exact ⟨_, rfl, rfl⟩
    · exact ⟨_, rfl, rfl⟩
    · exact ⟨r, by simpa using r1, by simpa using r2⟩
theorem preOf_all {s : List T_Object.den} (ho : OkStore s) (hs : s.length ≤ 1048576) {l : List T_Entry.den} (hl : l.length ≤ 1048576) (hix : OkIx l l.length) (p : ByteArray) : ∃ r, spec_l13PreOf.s s l p = some r ∧ impl_preOf.s s l p = some r := by
  obtain ⟨r, r1, r2⟩ := few_pre (s := s) (few_of hix p) fun e he => by
    obtain ⟨m, _⟩ := List.mem_filter.1 he
    obtain ⟨i, hi, rfl⟩ := List.getElem_of_mem m
    exact (hix.md i hi hi).2.1
  refine ⟨r, ?_, ?_⟩
  · rw [spec_pre ho hs l hl]; exact r1
  · rw [impl_preOf.e]
    have := impl_pre_loop ho p l hl (fun j hj => hix.st j hj hj) 0 noS l.length 0 σ0 (by omega)
    rw [List.drop_zero] at this
    exact this.trans r2
theorem pre_all (s : List T_Object.den) (hs : s.length ≤ 1048576) (l : List T_Entry.den) (hl : l.length ≤ 1048576) (hp : ∀ e ∈ l, (e.1 : ByteArray).size ≤ 1048576) (p : ByteArray) : ∃ r, spec_PreOf.s s l p = some r ∧ impl_PreOf.s s l p = some r := by
  obtain ⟨h1, h2⟩ := storeFault_all s hs
  obtain ⟨c, c1, c2, c3⟩ := indexFault_all l hl hp
  have f2 : ∀ a b : Int, impl_firstCode.s (fillElems [((0 : Nat), a), ((1 : Nat), b)] (List.replicate (2 : Nat) (0 : Int))) = some (if a = 0 then b else a) := firstCode2_s
  rw [spec_PreOf.e, impl_PreOf.e, h1, h2, c1, c2]
  simp only [Option.bind_some, f2]
  by_cases h0 : storeFault s = 0
  · rw [if_pos h0, if_pos h0]
    by_cases hc : c = 0
    · rw [if_pos hc, if_pos hc]
      obtain ⟨r, r1, r2⟩ := preOf_all (store_ok h0 hs) hs hl (c3 hc).1 p
      rw [r1, r2]
      exact ⟨_, rfl, rfl⟩
    · rw [if_neg hc, if_neg hc]; exact ⟨_, rfl, rfl⟩
  · rw [if_neg h0, if_neg h0, if_neg h0]; exact ⟨_, rfl, rfl⟩
theorem preOf_law (x : List T_Object.den) (y : List T_Entry.den) (p : ByteArray) (g : good (.sl T_Object) x) (g2 : good (.sl T_Entry) y) (g3 : good .str p) : Says (fun n => laws_FnExactPreOf n x y p) true := by
  refine says_lim ?_
  show laws_FnExactPreOf.s x y p = some true
  have e1 : laws_szObjectS.s x 1048576 = some (szr (bulk (.sl T_Object) x) 1048576) := lim_says (says_laws_szObjectS x 1048576 g (by omega) (by omega))
  rw [laws_FnExactPreOf.e]
  by_cases hp : (p.size : Int) > 1048576
  · rw [if_pos hp]
  rw [if_neg hp, e1, Option.bind_some]
  by_cases h : szr (bulk (.sl T_Object) x) 1048576 < 0
  · rw [if_pos h]
  have hb := szr_pos h
  have e2 : laws_szEntryS.s y (szr (bulk (.sl T_Object) x) 1048576) = some (szr (bulk (.sl T_Entry) y) (szr (bulk (.sl T_Object) x) 1048576)) := lim_says (says_laws_szEntryS y _ g2 (by omega) (by unfold szr; split <;> omega))
  rw [if_neg h, e2, Option.bind_some]
  by_cases h' : szr (bulk (.sl T_Entry) y) (szr (bulk (.sl T_Object) x) 1048576) < 0
  · rw [if_pos h']
  have hb2 := szr_pos h'
  have hs : szr (bulk (.sl T_Object) x) 1048576 ≤ 1048576 := by unfold szr; split <;> omega
  have t1 : laws_toObjectS.s x = some x := lim_says (says_laws_toObjectS x (by omega))
  have t2 : laws_toEntryS.s y = some y := lim_says (says_laws_toEntryS y (by omega))
  have q1 : laws_eqObjectS.s x x = some true := lim_says (says_laws_eqObjectS x (by omega))
  have q2 : laws_eqEntryS.s y y = some true := lim_says (says_laws_eqEntryS y (by omega))
  have hx : bulk (.sl T_Object) x = x.length + (x.map (bulk T_Object)).sum := rfl
  have hy : bulk (.sl T_Entry) y = y.length + (y.map (bulk T_Entry)).sum := rfl
  obtain ⟨r, r1, r2⟩ := pre_all x (by omega) y (by omega) (good_size (by omega)) p
  have q3 : laws_eqTextResult.s r r = some true := by rw [laws_eqTextResult.e, if_pos rfl, if_pos rfl]
  rw [if_neg h']
  simp only [t1, t2, q1, q2, q3, r1, r2, Option.bind_some, if_true]
end Go.Proofs.YtmojilihllhadaaGreatDoor.Ev
