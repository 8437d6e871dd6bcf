/- The law FnExactHasBlobs: the pure part. -/
import Derived.Test.YthooeghlplhlnaaDoorPfGet
import Derived.Test.YthooeghlplhlnaaDoorBoA
set_option linter.unusedVariables false
set_option linter.unusedSimpArgs false
namespace Go.Proofs.YthooeghlplhlnaaDoor.Ev
open Go

def hasB (l : List T_Object.den) (f : List T_File.den) : Bool := f.all fun x => (getO l 1 x.2.2.1).2
theorem spec_blobs_s (l : List T_Object.den) (hl : l.length ≤ 1048576) (f : List T_File.den) (hf : f.length ≤ 1048576) : ∀ (k i : Nat), i + k = f.length → spec_l11Blobs_L2.s l f i = some ((f.drop i).all fun x => (getO l 1 x.2.2.1).2)
  | 0, i, h => by rw [spec_l11Blobs_L2.e, if_neg (by omega), List.drop_eq_nil_of_le (by omega)]; rfl
  | k + 1, i, h => by
    have hi : i < f.length := by omega
    rw [spec_l11Blobs_L2.e]
    simp (disch := omega) only [if_pos, spec_get_s l hl, Option.bind_some, Int.toNat_natCast, nth_at hi, wrap_succ, spec_blobs_s l hl f hf k (i + 1)]
    rw [List.drop_eq_getElem_cons hi, List.all_cons]
    cases hc : (getO l 1 (f[i] : T_File.den).2.2.1).2 with
    | true => simp
    | false => simp
theorem impl_blobs_s {l : List T_Object.den} (ho : OkStore l) (f : List T_File.den) (hf : f.length ≤ 1048576) : impl_hasBlobs.s l f = some (hasB l f) := by
  rw [impl_hasBlobs.e, impl_hasBlobs_L1.e, slices_ContainsFunc___impl_File_impl_File_.e, slices_IndexFunc___impl_File_impl_File_.e]
  have hn : nth (Ty.sl T_Object) [l] (nat_lit 0) = l := rfl
  have := row_find0 (t := T_File) (L := fun i => slices_IndexFunc___impl_File_impl_File__L2.s f l (f.length : Int) i) (q := fun x => !(getO l 1 x.2.2.1).2) (l := f) hf
    (by show slices_IndexFunc___impl_File_impl_File__L2.s f l _ _ = _; rw [slices_IndexFunc___impl_File_impl_File__L2.e, if_neg (by omega)])
    (fun i hi hq => by
      show slices_IndexFunc___impl_File_impl_File__L2.s f l _ _ = _
      rw [slices_IndexFunc___impl_File_impl_File__L2.e, hn]
      simp (disch := omega) only [if_pos, impl_get_s ho, Option.bind_some, Int.toNat_natCast, nth_at hi]
      rw [if_neg (by simpa using hq)])
    (fun i hi hq => by
      show slices_IndexFunc___impl_File_impl_File__L2.s f l _ _ = slices_IndexFunc___impl_File_impl_File__L2.s f l _ _
      conv => lhs; rw [slices_IndexFunc___impl_File_impl_File__L2.e, hn]
      simp (disch := omega) only [if_pos, impl_get_s ho, Option.bind_some, Int.toNat_natCast, nth_at hi, wrap_succ]
      rw [if_pos (by simpa using hq)])
  rw [this, Option.bind_some, Option.bind_some]
  congr 1
  unfold hasB
  cases hx : List.findIdx? (fun x : T_File.den => !(getO l 1 x.2.2.1).2) f with
  | none =>
    rw [List.findIdx?_eq_none_iff] at hx
    have : (f.all fun x => (getO l 1 x.2.2.1).2) = true := by
      rw [List.all_eq_true]
      intro x hm
      have := hx x hm
      simpa using this
    rw [this]; rfl
  | some i =>
    rw [List.findIdx?_eq_some_iff_getElem] at hx
    obtain ⟨hi, hq, _⟩ := hx
    have : (f.all fun x => (getO l 1 x.2.2.1).2) = false := by
      rw [List.all_eq_false]
      exact ⟨_, List.getElem_mem hi, by simpa using hq⟩
    rw [this]; simp
theorem hasBlobs_all (l : List T_Object.den) (hl : l.length ≤ 1048576) (f : List T_File.den) (hf : f.length ≤ 1048576) : ∃ r, spec_HasBlobs.s l f = some r ∧ impl_HasBlobs.s l f = some r := by
  obtain ⟨h1, h2⟩ := storeFault_all l hl
  rw [spec_HasBlobs.e, impl_HasBlobs.e, h1, h2, Option.bind_some, Option.bind_some]
  by_cases h0 : storeFault l = 0
  · rw [if_pos h0, if_pos h0, spec_l11Blobs.e, impl_blobs_s (store_ok h0 hl) f hf]
    have := spec_blobs_s l hl f hf f.length 0 (by omega)
    rw [show (0 : Int) = ((0 : Nat) : Int) from rfl, this]
    exact ⟨_, rfl, rfl⟩
  · rw [if_neg h0, if_neg h0]
    exact ⟨_, rfl, rfl⟩

theorem hasBlobs_law (x : List T_Object.den) (y : List T_File.den) (g : good (.sl T_Object) x) (g2 : good (.sl T_File) y) : Says (fun n => laws_FnExactHasBlobs n x y) true := by
  refine says_lim ?_
  show laws_FnExactHasBlobs.s x y = some true
  have e1 : laws_szObjectS.s x 1048576 = some (szr (bulk (.sl T_Object) x) 1048576) := lim_says (says_laws_szObjectS x 1048576 g (by omega) (by omega))
  rw [laws_FnExactHasBlobs.e, e1, Option.bind_some]
  by_cases h : szr (bulk (.sl T_Object) x) 1048576 < 0
  · rw [if_pos h]
  have hb := szr_pos h
  have e2 : laws_szFileS.s y (szr (bulk (.sl T_Object) x) 1048576) = some (szr (bulk (.sl T_File) y) (szr (bulk (.sl T_Object) x) 1048576)) := lim_says (says_laws_szFileS y _ g2 (by omega) (by unfold szr; split <;> omega))
  rw [if_neg h, e2, Option.bind_some]
  by_cases h' : szr (bulk (.sl T_File) y) (szr (bulk (.sl T_Object) x) 1048576) < 0
  · rw [if_pos h']
  have hb2 := szr_pos h'
  have hs : szr (bulk (.sl T_Object) x) 1048576 ≤ 1048576 := by unfold szr; split <;> omega
  have hs2 : bulk (.sl T_Object) y = bulk (.sl T_File) y := rfl
  have t1 : laws_toObjectS.s x = some x := lim_says (says_laws_toObjectS x (by omega))
  have t2 : laws_toFileS.s y = some y := lim_says (says_laws_toFileS y (by omega))
  have q1 : laws_eqObjectS.s x x = some true := lim_says (says_laws_eqObjectS x (by omega))
  have q2 : laws_eqFileS.s y y = some true := lim_says (says_laws_eqFileS y (by omega))
  have hx : bulk (.sl T_Object) x = x.length + (x.map (bulk T_Object)).sum := rfl
  have hy : bulk (.sl T_File) y = y.length + (y.map (bulk T_File)).sum := rfl
  obtain ⟨r, r1, r2⟩ := hasBlobs_all x (by omega) y (by omega)
  rw [if_neg h']
  simp only [t1, t2, q1, q2, r1, r2, Option.bind_some, if_true]
end Go.Proofs.YthooeghlplhlnaaDoor.Ev
