/- slices.SortFunc by the order of entries: the contract at this seat. -/
import Derived.Test.YthooeghlplhlnaaDoorCmpW121
import Derived.Test.YthooeghlplhlnaaDoorEvS
import Derived.Test.YthooeghlplhlnaaDoorSh
import Derived.Shelf.SlSortCmp.NoneTotal
import Derived.Sort.AssemblyPlain
import Derived.KernelRfl
set_option linter.unusedVariables false
set_option linter.unusedSimpArgs false
namespace Go.Proofs.YthooeghlplhlnaaDoor.Ev
open Go Go.Proofs Go.Sort
theorem cb3 (a b : List UInt8) : Go.Lib.compareBytes a b = 0 ∨ Go.Lib.compareBytes a b < 0 ∨ Go.Lib.compareBytes a b > 0 := by omega
theorem cbz : ∀ (a b : List UInt8), Go.Lib.compareBytes a b = 0 → a = b
  | [], [], _ => rfl
  | [], _ :: _, h => by simp [Go.Lib.compareBytes] at h
  | _ :: _, [], h => by simp [Go.Lib.compareBytes] at h
  | x :: a, y :: b, h => by
    unfold Go.Lib.compareBytes at h
    split at h
    · omega
    · split at h
      · omega
      · rename_i h1 h2
        have : x = y := by
          simp only [UInt8.lt_iff_toNat_lt] at h1 h2
          exact UInt8.toNat_inj.1 (by omega)
        rw [this, cbz a b h]
theorem cbs : ∀ (a : List UInt8), Go.Lib.compareBytes a a = 0
  | [] => rfl
  | x :: a => by
    unfold Go.Lib.compareBytes
    rw [if_neg (UInt8.lt_irrefl x), if_neg (UInt8.lt_irrefl x)]; exact cbs a
theorem cbt : ∀ (a b c : List UInt8), Go.Lib.compareBytes a b < 0 → Go.Lib.compareBytes b c < 0 → Go.Lib.compareBytes a c < 0
  | [], _, [], h1, h2 => by cases ‹List UInt8› <;> simp [Go.Lib.compareBytes] at h1 h2
  | [], _, _ :: _, _, _ => by simp [Go.Lib.compareBytes]
  | _ :: _, [], _, h1, _ => by simp [Go.Lib.compareBytes] at h1
  | _ :: _, _ :: _, [], _, h2 => by simp [Go.Lib.compareBytes] at h2
  | x :: a, y :: b, z :: c, h1, h2 => by
    unfold Go.Lib.compareBytes at h1 h2 ⊢
    simp only [UInt8.lt_iff_toNat_lt] at h1 h2 ⊢
    split at h1
    · split at h2
      · rw [if_pos (by omega)]; omega
      · split at h2
        · omega
        · rw [if_pos (by omega)]; omega
    · split at h1
      · omega
      · split at h2
        · rw [if_pos (by omega)]; omega
        · split at h2
          · omega
          · rw [if_neg (by omega), if_neg (by omega)]
            exact cbt a b c h1 h2
theorem cbf : ∀ (a b : List UInt8), Go.Lib.compareBytes a b > 0 ↔ Go.Lib.compareBytes b a < 0
  | [], [] => by simp [Go.Lib.compareBytes]
  | [], _ :: _ => by simp [Go.Lib.compareBytes]
  | _ :: _, [] => by simp [Go.Lib.compareBytes]
  | x :: a, y :: b => by
    have ih := cbf a b
    unfold Go.Lib.compareBytes
    simp only [UInt8.lt_iff_toNat_lt]
    by_cases h1 : x.toNat < y.toNat
    · rw [if_pos h1, if_neg (by omega), if_pos h1]; omega
    · by_cases h2 : y.toNat < x.toNat
      · rw [if_neg h1, if_pos h2, if_pos h2]; omega
      · rw [if_neg h1, if_neg h2, if_neg h2, if_neg h1]; exact ih
theorem orI_lt (c s t : Int) : orI c (if s < t then -1 else if t < s then 1 else 0) < 0 ↔ c < 0 ∨ (c = 0 ∧ s < t) := by
  unfold orI
  by_cases hc : c = 0
  · subst hc
    rw [if_neg (by simp)]
    split
    · simp; assumption
    · split
      · simp; omega
      · simp; omega
  · rw [if_pos hc]
    constructor
    · exact .inl
    · rintro (h | ⟨h, _⟩)
      · exact h
      · exact absurd h hc
theorem cb0 {a b : List UInt8} : Go.Lib.compareBytes a b = 0 ↔ a = b := ⟨cbz a b, fun h => by rw [h, cbs]⟩
/-- which of two entries comes first -/
theorem cf_lt (x y : T_Entry.den) : cf_Entry x y < 0 ↔ Go.Lib.compareBytes x.1.data.toList y.1.data.toList < 0 ∨ (x.1.data.toList = y.1.data.toList ∧ x.2.1 < y.2.1) := by
  rw [← cb0]
  exact orI_lt _ _ _
theorem cf_swo : SWO (ltOf cf_Entry) where
  irrefl := fun x => by
    unfold ltOf
    rw [decide_eq_false_iff_not, cf_lt]
    rintro (h | ⟨_, h⟩)
    · rw [cbs] at h; omega
    · exact Int.lt_irrefl _ h
  trans := fun x y z h1 h2 => by
    unfold ltOf at h1 h2 ⊢
    rw [decide_eq_true_iff, cf_lt] at h1 h2 ⊢
    rcases h1 with h1 | ⟨e1, h1⟩ <;> rcases h2 with h2 | ⟨e2, h2⟩
    · exact .inl (cbt _ _ _ h1 h2)
    · rw [e2] at h1; exact .inl h1
    · rw [← e1] at h2; exact .inl h2
    · exact .inr ⟨e1.trans e2, Int.lt_trans h1 h2⟩
  ntrans := fun x y z h1 h2 => by
    unfold ltOf at h1 h2 ⊢
    rw [decide_eq_false_iff_not, cf_lt, not_or, not_and] at h1 h2 ⊢
    obtain ⟨a1, b1⟩ := h1
    obtain ⟨a2, b2⟩ := h2
    have c1 : Go.Lib.compareBytes y.1.data.toList x.1.data.toList < 0 ∨ x.1.data.toList = y.1.data.toList := by
      rcases cb3 x.1.data.toList y.1.data.toList with h | h | h
      · exact .inr (cbz _ _ h)
      · exact absurd h a1
      · exact .inl ((cbf _ _).1 h)
    have c2 : Go.Lib.compareBytes z.1.data.toList y.1.data.toList < 0 ∨ y.1.data.toList = z.1.data.toList := by
      rcases cb3 y.1.data.toList z.1.data.toList with h | h | h
      · exact .inr (cbz _ _ h)
      · exact absurd h a2
      · exact .inl ((cbf _ _).1 h)
    have key : Go.Lib.compareBytes z.1.data.toList x.1.data.toList < 0 ∨ (x.1.data.toList = z.1.data.toList ∧ x.1.data.toList = y.1.data.toList) := by
      rcases c1 with c1 | c1 <;> rcases c2 with c2 | c2
      · exact .inl (cbt _ _ _ c2 c1)
      · rw [c2] at c1; exact .inl c1
      · rw [← c1] at c2; exact .inl c2
      · exact .inr ⟨c1.trans c2, c1⟩
    rcases key with key | ⟨k1, k2⟩
    · refine ⟨fun h => ?_, fun h => ?_⟩
      · have := cbt _ _ _ h key
        rw [cbs] at this; omega
      · rw [h, cbs] at key; omega
    · refine ⟨fun h => by rw [k1, cbs] at h; omega, fun _ h => ?_⟩
      exact Int.not_lt.2 (Int.le_trans (Int.not_lt.1 (b2 (k2.symm.trans k1))) (Int.not_lt.1 (b1 k2))) h
/-- what the sort makes: the same, in order -/
theorem sortBy_spec (l : List T_Entry.den) : (sortBy T_Entry cf_Entry l).Perm l ∧ ∀ (i j : Nat) (hi : i < (sortBy T_Entry cf_Entry l).length) (hj : j < (sortBy T_Entry cf_Entry l).length), i < j → ¬ cf_Entry ((sortBy T_Entry cf_Entry l)[j]) ((sortBy T_Entry cf_Entry l)[i]) < 0 := by
  letI : Inhabited T_Entry.den := ⟨T_Entry.dft⟩
  have h := pdq_sorts (ltOf cf_Entry) cf_swo l.toArray 0 l.toArray.size (Go.Lib.bitLen l.toArray.size) true true (Nat.zero_le _) (Nat.le_refl _) (Or.inl rfl)
  obtain ⟨⟨h1, _, h3⟩, h4⟩ := h
  have he : sortBy T_Entry cf_Entry l = (pdq (ltOf cf_Entry) l.toArray 0 l.toArray.size (Go.Lib.bitLen l.toArray.size) true true).toList := rfl
  generalize pdq (ltOf cf_Entry) l.toArray 0 l.toArray.size (Go.Lib.bitLen l.toArray.size) true true = d at h1 h3 h4 he
  rw [he]
  refine ⟨?_, fun i j hi hj hij => ?_⟩
  · have e1 : d.extract 0 l.toArray.size = d := by rw [← h1]; simp
    rw [e1] at h3
    simpa using h3
  · have hj' : j < d.size := by simpa using hj
    have hi' : i < d.size := by omega
    have := h4 i j (Nat.zero_le _) hij (by rw [← h1]; exact hj')
    unfold ltOf at this
    rw [decide_eq_false_iff_not] at this
    simpa [hi', hj'] using this
theorem sortWalk : SortWalk Tryd.prog 123 121 T_Entry cf_Entry where
  nil := fun p cap fv w => AnyF.slices_SortFunc_none Tryd.sl6_123 p cap fv w
  row := fun blk off cap d w hH hblk hsz => by
    letI : Inhabited T_Entry.den := ⟨T_Entry.dft⟩
    exact AnyQ.slices_SortFunc_eq Tryd.sl6_123 4 Tryd.isAgg122 Tryd.sizeOf122 (encT T_Entry) (enc_len T_Entry rfl) (enc_one T_Entry rfl) cf_Entry cf_swo 121 #[] blk off cap d w (enters_of Tryd.func121 (by kernel_rfl) rfl)
      (fun m os dk hs x y => w_cmpEntries x y _) hH hblk hsz
  len := fun l => (sortBy_spec l).1.length_eq
theorem libSort123 : XtOne Tryd.prog env 123 (.sort T_Entry 121 cf_Entry) := sort_one rfl sortWalk ⟨_, Tryd.func123, by kernel_rfl, by kernel_rfl⟩
end Go.Proofs.YthooeghlplhlnaaDoor.Ev
