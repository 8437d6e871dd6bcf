/- Objects and stores: names of data, faults, order, search. -/
import Derived.Test.YtmojilihllhadaaGreatDoorPfTf
import Derived.Test.YtmojilihllhadaaGreatDoorPfCodeIf
import Derived.Test.YtmojilihllhadaaGreatDoorPfOrd
import Derived.Test.YtmojilihllhadaaGreatDoorPfDigest
set_option linter.unusedVariables false
set_option linter.unusedSimpArgs false
namespace Go.Proofs.YtmojilihllhadaaGreatDoor.Ev
open Go

/-! #### names of data -/
def hex4 (d : Nat) : List UInt8 := [hexDig (d / 4096), hexDig (d / 256 % 16), hexDig (d / 16 % 16), hexDig (d % 16)]
def letter (k : Int) : UInt8 := if k = 1 then 98 else if k = 2 then 116 else 99
/-- the name of data of a kind -/
noncomputable def idB (k : Int) (s : ByteArray) : ByteArray := ba (letter k :: hex4 (digest s).toNat)
def hexT : ByteArray := ByteArray.mk #[48, 49, 50, 51, 52, 53, 54, 55, 56, 57, 97, 98, 99, 100, 101, 102]
theorem hexT_fin : ∀ d : _root_.Fin 16, (hexT.extract d.val (d.val + 1)).data.toList = [hexDig d.val] := by decide
theorem hexT_at {d : Nat} (h : d < 16) : hexT.extract d (d + 1) = ba [hexDig d] := ba_ext (hexT_fin ⟨d, h⟩)
theorem hexT_size : hexT.size = 16 := rfl
theorem l5Id_step (k : Int) (d : Nat) (out : List UInt8) (i : Nat) (hi : i < 4) (hd : d < 65521) (ho : out.length ≤ 10) :
    spec_l5Id_L4.s k d (ba out) i = spec_l5Id_L4.s k ((d / 16 : Nat) : Int) (ba (hexDig (d % 16) :: out)) ((i + 1 : Nat) : Int) := by
  have e1 : (d : Int).tmod 16 = ((d % 16 : Nat) : Int) := by rw [Int.tmod_eq_emod_of_nonneg (by omega)]; omega
  have e2 : (d : Int).tdiv 16 = ((d / 16 : Nat) : Int) := by rw [Int.tdiv_eq_ediv_of_nonneg (by omega)]; omega
  rw [spec_l5Id_L4.e]
  simp only [e1, e2, wrap_succ (i := d % 16) (by omega), Int.toNat_natCast]
  rw [show (ByteArray.mk #[(48 : UInt8), (49 : UInt8), (50 : UInt8), (51 : UInt8), (52 : UInt8), (53 : UInt8), (54 : UInt8), (55 : UInt8), (56 : UInt8), (57 : UInt8), (97 : UInt8), (98 : UInt8), (99 : UInt8), (100 : UInt8), (101 : UInt8), (102 : UInt8)]) = hexT from rfl]
  rw [hexT_at (by omega), hexT_size, ba_append, if_pos (by omega), if_pos (by omega), if_pos (by omega), if_pos (by simp only [ba_size, List.length_cons, List.length_nil]; omega), wrap_nat (by omega), wrap_succ (by omega)]
  rfl
theorem letter_spec (k : Int) (h0 : 1 ≤ k) (h1 : k ≤ 3) : spec_l5Letter.s k = some (ba [letter k]) := by
  rw [spec_l5Letter.e]
  have : k = 1 ∨ k = 2 ∨ k = 3 := by omega
  rcases this with rfl | rfl | rfl <;> rfl
theorem spec_id (k : Int) (s : ByteArray) (h0 : 1 ≤ k) (h1 : k ≤ 3) (hs : s.size ≤ 4000000000) : spec_l5Id.s k s = some (idB k s) := by
  obtain ⟨q1, _, q3, q4⟩ := digest_all s hs
  rw [spec_l5Id.e, q1, Option.bind_some]
  unfold idB
  obtain ⟨d, hd⟩ := Int.eq_ofNat_of_zero_le q3
  rw [hd] at q4 ⊢
  have hd' : d < 65521 := by omega
  rw [show noS = ba [] from rfl, show (0 : Int) = ((0 : Nat) : Int) from rfl, l5Id_step k d [] 0 (by omega) hd' (by simp), l5Id_step k _ _ 1 (by omega) (by omega) (by simp), l5Id_step k _ _ 2 (by omega) (by omega) (by simp),
    l5Id_step k _ _ 3 (by omega) (by omega) (by simp), spec_l5Id_L4.e, if_neg (by omega), letter_spec k h0 h1, Option.bind_some, ba_append, if_pos (by simp [ba_size]), Int.toNat_natCast]
  have e1 : d / 16 / 16 / 16 % 16 = d / 4096 := by omega
  have e2 : d / 16 / 16 % 16 = d / 256 % 16 := by omega
  rw [e1, e2]
  rfl
theorem hexDig0 : hexDig 0 = 48 := rfl
theorem hex_pad (d : Nat) (hd : d < 65536) : (hexB (d : Int)).size ≤ 4 ∧ repB (ByteArray.mk #[48]) (4 - (hexB (d : Int)).size) ++ hexB (d : Int) = ba (hex4 d) := by
  have hr : ∀ n l, repB (ByteArray.mk #[48]) n ++ ba l = ba (List.replicate n 48 ++ l) := fun n l => by
    have : repB (ByteArray.mk #[48]) n = ba (List.replicate n 48) := by
      unfold repB ba
      congr 2
      induction n with
      | zero => rfl
      | succ n ih => simp only [Go.Lib.repeatL] at ih ⊢; rw [ih]; rfl
    rw [this, ba_append]
  unfold hexB hex4
  split
  · have e1 : d / 4096 = 0 := by omega
    have e2 : d / 256 % 16 = 0 := by omega
    have e3 : d / 16 % 16 = 0 := by omega
    have e4 : d % 16 = d := by omega
    rw [e1, e2, e3, e4]
    exact ⟨by show (_ : Nat) ≤ 4; simp [ByteArray.size], hr 3 _⟩
  · split
    · have e1 : d / 4096 = 0 := by omega
      have e2 : d / 256 % 16 = 0 := by omega
      have e3 : d / 16 % 16 = d / 16 := by omega
      rw [e1, e2, e3]
      exact ⟨by show (_ : Nat) ≤ 4; simp [ByteArray.size], hr 2 _⟩
    · split
      · have e1 : d / 4096 = 0 := by omega
        have e2 : d / 256 % 16 = d / 256 := by omega
        rw [e1, e2]
        exact ⟨by show (_ : Nat) ≤ 4; simp [ByteArray.size], hr 1 _⟩
      · exact ⟨by show (_ : Nat) ≤ 4; simp [ByteArray.size], hr 0 _⟩
theorem letter_impl (k : Int) (h0 : 1 ≤ k) (h1 : k ≤ 3) : (ByteArray.mk #[(98 : UInt8), (116 : UInt8), (99 : UInt8)]).extract (IntKind.i64.wrap (k - (1 : Int))).toNat k.toNat = ba [letter k] := by
  have : k = 1 ∨ k = 2 ∨ k = 3 := by omega
  rcases this with rfl | rfl | rfl <;> rfl
theorem impl_id (k : Int) (s : ByteArray) (h0 : 1 ≤ k) (h1 : k ≤ 3) (hs : s.size ≤ 4000000000) : impl_idOf.s k s = some (idB k s) := by
  obtain ⟨_, q2, q3, q4⟩ := digest_all s hs
  rw [impl_idOf.e, q2, Option.bind_some]
  unfold idB
  obtain ⟨d, hd⟩ := Int.eq_ofNat_of_zero_le q3
  rw [hd] at q4 ⊢
  have hd' : d < 65521 := by omega
  obtain ⟨p1, p2⟩ := hex_pad d (by omega)
  have e3 : (ByteArray.mk #[(98 : UInt8), (116 : UInt8), (99 : UInt8)]).size = 3 := rfl
  have e4 : (ByteArray.mk #[(48 : UInt8)]).size = 1 := rfl
  have e5 : IntKind.i64.wrap ((4 : Int) - ((hexB (d : Int)).size : Int)) = ((4 - (hexB (d : Int)).size : Nat) : Int) := by rw [wrap_id (by omega) (by omega)]; omega
  have e6 : IntKind.i64.wrap (k - 1) = k - 1 := wrap_id (by omega) (by omega)
  have e7 := congrArg ByteArray.size p2
  rw [ByteArray.size_append] at e7
  have e8 : (ba (hex4 d)).size = 4 := rfl
  have e9 : (ba [letter k]).size = 1 := rfl
  rw [letter_impl k h0 h1, e3, e4, e5]
  simp only [e6, Int.toNat_natCast]
  rw [if_pos (by omega), if_pos (by omega), if_pos (by omega), if_pos (by omega), if_pos (by omega), if_pos (by rw [ByteArray.size_append]; omega), ByteArray.append_assoc, p2, ba_append]
  rfl

/-! #### faults of stores -/
theorem spec_kind (k : Int) : spec_l5Kind.s k = some (decide (1 ≤ k ∧ k ≤ 3)) := by
  rw [spec_l5Kind.e, spec_l1In.e]
  by_cases h : k ≥ 1
  · rw [if_pos h, Option.bind_some]; congr 1; simp; omega
  · rw [if_neg h, Option.bind_some]; congr 1; simp; omega
theorem impl_kind (k : Int) : impl_isKind.s k = some (decide (1 ≤ k ∧ k ≤ 3)) := by
  rw [impl_isKind.e, impl_within.e]
  by_cases h : k ≥ 1
  · rw [if_pos h, Option.bind_some]; congr 1; simp; omega
  · rw [if_neg h, Option.bind_some]; congr 1; simp; omega
/-- the code of a kind and data -/
def dc (k : Int) (s : ByteArray) : Int := if 1 ≤ k ∧ k ≤ 3 then tf s else 3
theorem impl_dc (k : Int) (s : ByteArray) : impl_dataCode.s k s = some (dc k s) := by
  rw [impl_dataCode.e, impl_kind, Option.bind_some, codeIf_s, Option.bind_some, impl_tf, Option.bind_some, firstCode2_s, Option.bind_some]
  unfold dc
  by_cases h : 1 ≤ k ∧ k ≤ 3
  · rw [if_pos h]; simp [h]
  · rw [if_neg h]; simp [h]
theorem spec_idOf (k : Int) (s : ByteArray) : spec_IdOf.s k s = some (if dc k s = 0 then ((0 : Int), idB k s, ()) else (dc k s, noS, ())) := by
  rw [spec_IdOf.e, spec_kind, Option.bind_some]
  unfold dc
  by_cases h : 1 ≤ k ∧ k ≤ 3
  · simp only [decide_eq_true h, if_pos h, if_true]
    rw [spec_tf, Option.bind_some]
    by_cases ht : tf s = 0
    · have := tf_size ht
      rw [if_pos ht, if_pos ht, spec_id k s h.1 h.2 (by omega), Option.bind_some]
    · rw [if_neg ht, if_neg ht]
  · simp only [decide_eq_false h, if_neg h]
    rfl

/-- a store without fault from place i on -/
theorem store_loop (l : List T_Object.den) (hl : l.length ≤ 1048576) : ∀ (k i : Nat), i + k = l.length →
    ∃ r, spec_StoreFault_L4.s l i = some r ∧ impl_StoreFault_L4.s l l l.length i = some r
  | 0, i, h => ⟨0, by rw [spec_StoreFault_L4.e, if_neg (by omega)], by rw [impl_StoreFault_L4.e, if_neg (by omega)]⟩
  | k + 1, i, h => by
    obtain ⟨r, h1, h2⟩ := store_loop l hl k (i + 1) (by omega)
    have hi : i < l.length := by omega
    rw [spec_StoreFault_L4.e, impl_StoreFault_L4.e]
    simp (disch := omega) only [if_pos, wrap_succ, h1, h2, spec_idOf, impl_dc, Option.bind_some, Int.toNat_natCast, nth_at hi]
    by_cases hd : dc (l[i] : T_Object.den).2.1 (l[i] : T_Object.den).2.2.1 = 0
    · have hk : 1 ≤ (l[i] : T_Object.den).2.1 ∧ (l[i] : T_Object.den).2.1 ≤ 3 := by
        unfold dc at hd
        split at hd
        · assumption
        · omega
      have ht : tf (l[i] : T_Object.den).2.2.1 = 0 := by unfold dc at hd; rwa [if_pos hk] at hd
      have := tf_size ht
      have hI := impl_id (l[i] : T_Object.den).2.1 (l[i] : T_Object.den).2.2.1 hk.1 hk.2 (by omega)
      simp only [if_pos hd, if_true, hI, Option.bind_some, eq_comm (a := (l[i] : T_Object.den).1)]
      by_cases hid : idB (l[i] : T_Object.den).2.1 (l[i] : T_Object.den).2.2.1 = (l[i] : T_Object.den).1
      · simp only [if_pos hid]
        by_cases h0 : (i : Int) > 0
        · simp (disch := omega) only [if_pos, wrap_pred]
          split
          · exact ⟨_, rfl, rfl⟩
          · exact ⟨_, rfl, rfl⟩
        · simp only [if_neg h0]
          exact ⟨_, rfl, rfl⟩
      · simp only [if_neg hid]
        exact ⟨_, rfl, rfl⟩
    · simp only [if_neg hd]
      exact ⟨_, rfl, rfl⟩
noncomputable def storeFault (l : List T_Object.den) : Int := (spec_StoreFault.s l).getD 0
theorem storeFault_all (l : List T_Object.den) (hl : l.length ≤ 1048576) : spec_StoreFault.s l = some (storeFault l) ∧ impl_StoreFault.s l = some (storeFault l) := by
  have key : ∃ r, spec_StoreFault.s l = some r ∧ impl_StoreFault.s l = some r := by
    rw [spec_StoreFault.e, impl_StoreFault.e]
    split
    · exact ⟨_, rfl, rfl⟩
    · exact store_loop l hl l.length 0 (by omega)
  obtain ⟨r, h1, h2⟩ := key
  have e : storeFault l = r := by unfold storeFault; rw [h1]; rfl
  rw [e]
  exact ⟨h1, h2⟩
end Go.Proofs.YtmojilihllhadaaGreatDoor.Ev
