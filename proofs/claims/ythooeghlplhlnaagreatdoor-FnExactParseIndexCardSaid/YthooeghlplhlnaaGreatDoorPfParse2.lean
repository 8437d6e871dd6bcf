/- The entry of a line: both ways. -/
import Derived.Test.YthooeghlplhlnaaGreatDoorPfParse
set_option linter.unusedVariables false
set_option linter.unusedSimpArgs false
namespace Go.Proofs.YthooeghlplhlnaaGreatDoor.Ev
open Go

/-! #### words, joined again -/
def unw : List (List UInt8) → List UInt8
  | [] => []
  | w :: [] => w
  | w :: v :: r => w ++ 32 :: unw (v :: r)
theorem unw_cons (w : List UInt8) (r : List (List UInt8)) (h : r ≠ []) : unw (w :: r) = w ++ 32 :: unw r := by
  cases r with
  | nil => exact absurd rfl h
  | cons v r => rfl
theorem wds_ne : ∀ (l cur : List UInt8), wds cur l ≠ []
  | [], cur => by simp [wds]
  | b :: r, cur => by
    simp only [wds]
    split
    · simp
    · exact wds_ne r _
theorem unw_wds : ∀ (l cur : List UInt8), unw (wds cur l) = cur ++ l
  | [], cur => by simp [wds, unw]
  | b :: r, cur => by
    simp only [wds]
    cases hb : (b == 32) with
    | true =>
      simp only []
      rw [unw_cons _ _ (wds_ne r []), unw_wds r [], List.nil_append, beq_iff_eq.1 hb]
    | false =>
      simp only []
      rw [unw_wds r (cur ++ [b])]
      simp

/-! #### the entry of words -/
def fileW : List UInt8 := [102, 105, 108, 101]
def runW : List UInt8 := [114, 117, 110]
def treeW : List UInt8 := [116, 114, 101, 101]
def modeN (w : List UInt8) : Int := if w = fileW then 1 else if w = runW then 2 else 0
def wordE : List (List UInt8) → Option T_Entry.den
  | [[a], w1, w2, w3] => if (48 ≤ (a.toNat : Int) ∧ (a.toNat : Int) ≤ 51) ∧ w2 ≠ [] ∧ w3 ≠ [] ∧ modeN w1 ≠ 0 then some (ba w3, (a.toNat : Int) - 48, modeN w1, ba w2, ()) else none
  | _ => none
def entE (E : List UInt8) : Option T_Entry.den := wordE (wds [] E)
theorem wordE_len {ws : List (List UInt8)} (h : ws.length ≠ 4) : wordE ws = none := by
  unfold wordE
  split
  · exact absurd rfl h
  · rfl
theorem wordE_one {w0 w1 w2 w3 : List UInt8} (h : w0.length ≠ 1) : wordE [w0, w1, w2, w3] = none := by
  cases w0 with
  | nil => rfl
  | cons a t =>
    cases t with
    | nil => exact absurd rfl h
    | cons b t => rfl
theorem wordE_eq (a : UInt8) (w1 w2 w3 : List UInt8) : wordE [[a], w1, w2, w3] = if (48 ≤ (a.toNat : Int) ∧ (a.toNat : Int) ≤ 51) ∧ w2 ≠ [] ∧ w3 ≠ [] ∧ modeN w1 ≠ 0 then some (ba w3, (a.toNat : Int) - 48, modeN w1, ba w2, ()) else none := rfl
theorem ba_inj {a b : List UInt8} : ba a = ba b ↔ a = b := by
  constructor
  · intro h
    exact congrArg (fun x : ByteArray => x.data.toList) h
  · rintro rfl; rfl
theorem ba_noS {a : List UInt8} : ba a = noS ↔ a = [] := ba_inj (b := [])
def fileB : ByteArray := ByteArray.mk #[(102 : UInt8), (105 : UInt8), (108 : UInt8), (101 : UInt8)]
def runB : ByteArray := ByteArray.mk #[(114 : UInt8), (117 : UInt8), (110 : UInt8)]
def treeB : ByteArray := ByteArray.mk #[(116 : UInt8), (114 : UInt8), (101 : UInt8), (101 : UInt8)]
theorem fileB_eq : fileB = ba fileW := rfl
theorem runB_eq : runB = ba runW := rfl
theorem treeB_eq : treeB = ba treeW := rfl
theorem words_all : spec_l6Words.s = some [noS, fileB, runB, treeB] := by rw [spec_l6Words.e]; rfl

theorem mode_loop (w0 w1 w2 w3 : List UInt8) (a d p : ByteArray) (b c s : Int) (q : ByteArray) :
    spec_l10Line_L6.s ([w0, w1, w2, w3].map ba) 1 a b c d p s 0 q = some ((p, s, modeN w1, q, ()), decide (modeN w1 > 0)) := by
  have l4 : ((([noS, fileB, runB, treeB] : List ByteArray).length : Nat) : Int) = 4 := rfl
  have m4 : (((([w0, w1, w2, w3].map ba) : List ByteArray).length : Nat) : Int) = 4 := rfl
  have n1 : nth Ty.str ([w0, w1, w2, w3].map ba) (Int.toNat (1 : Int)) = ba w1 := rfl
  have k1 : nth Ty.str [noS, fileB, runB, treeB] (Int.toNat (1 : Int)) = ba fileW := rfl
  have k2 : nth Ty.str [noS, fileB, runB, treeB] (Int.toNat (2 : Int)) = ba runW := rfl
  have i1 : IntKind.i64.wrap ((1 : Int) + 1) = 2 := by decide
  have i2 : IntKind.i64.wrap ((2 : Int) + 1) = 3 := by decide
  have c1 : (0 : Int) ≤ 1 ∧ (1 : Int) < 4 := by decide
  have c2 : (0 : Int) ≤ 2 ∧ (2 : Int) < 4 := by decide
  have d1 : (1 : Int) < 3 := by decide
  have d2 : (2 : Int) < 3 := by decide
  have d3 : ¬ (3 : Int) < 3 := by decide
  have hfr : fileW ≠ runW := by decide
  rw [spec_l10Line_L6.e, if_pos d1, words_all, Option.bind_some, l4, m4, if_pos c1, if_pos c1, n1, k1, i1]
  unfold modeN
  by_cases hf : w1 = fileW
  · subst hf
    rw [if_pos rfl, if_pos rfl, spec_l10Line_L6.e, if_pos d2, words_all, Option.bind_some, l4, m4, if_pos c2, if_pos c1, n1, k2, if_neg (fun e => hfr (ba_inj.1 e).symm), i2, spec_l10Line_L6.e, if_neg d3]
  · rw [if_neg (fun e => hf (ba_inj.1 e).symm), if_neg hf, spec_l10Line_L6.e, if_pos d2, words_all, Option.bind_some, l4, m4, if_pos c2, if_pos c1, n1, k2, i2]
    by_cases hr : w1 = runW
    · subst hr
      rw [if_pos rfl, if_pos rfl, spec_l10Line_L6.e, if_neg d3]
    · rw [if_neg (fun e => hr (ba_inj.1 e).symm), if_neg hr, spec_l10Line_L6.e, if_neg d3]
theorem modeN_pos (w : List UInt8) : decide (modeN w > 0) = decide (modeN w ≠ 0) := by
  unfold modeN
  split
  · rfl
  · split <;> rfl
theorem modeN_or (w : List UInt8) : modeN w = 0 ∨ modeN w = 1 ∨ modeN w = 2 := by
  unfold modeN
  split
  · exact .inr (.inl rfl)
  · split
    · exact .inr (.inr rfl)
    · exact .inl rfl

theorem stage_wrap {a : UInt8} (h : 48 ≤ (a.toNat : Int) ∧ (a.toNat : Int) ≤ 51) : IntKind.i64.wrap (IntKind.u8.wrap ((a.toNat : Int) - 48)) = (a.toNat : Int) - 48 := by
  have h1 : (a.toNat : Int) - 48 = 0 ∨ (a.toNat : Int) - 48 = 1 ∨ (a.toNat : Int) - 48 = 2 ∨ (a.toNat : Int) - 48 = 3 := by omega
  rcases h1 with h1 | h1 | h1 | h1 <;> rw [h1] <;> decide
theorem spec_line (E : List UInt8) (hE : E.length ≤ 1048576) : ∃ x, spec_l10Line.s (ba E) = some (x, (entE E).isSome) ∧ ∀ e, entE E = some e → x = e := by
  have hw : spec_l6Split.s (ba E) = some ((wds [] E).map ba) := by
    rw [spec_words (ba E) (by rw [ba_size]; exact hE)]; rfl
  rw [spec_l10Line.e, hw, Option.bind_some]
  unfold entE
  generalize wds [] E = ws
  by_cases h4 : ws.length = 4
  · obtain ⟨w0, w1, w2, w3, rfl⟩ : ∃ w0 w1 w2 w3, ws = [w0, w1, w2, w3] := by
      match ws, h4 with
      | [w0, w1, w2, w3], _ => exact ⟨w0, w1, w2, w3, rfl⟩
    have m4 : (((([w0, w1, w2, w3].map ba) : List ByteArray).length : Nat) : Int) = 4 := rfl
    have n0 : nth Ty.str ([w0, w1, w2, w3].map ba) (Int.toNat (0 : Int)) = ba w0 := rfl
    have n2 : nth Ty.str ([w0, w1, w2, w3].map ba) (Int.toNat (2 : Int)) = ba w2 := rfl
    have n3 : nth Ty.str ([w0, w1, w2, w3].map ba) (Int.toNat (3 : Int)) = ba w3 := rfl
    have c0 : (0 : Int) ≤ 0 ∧ (0 : Int) < 4 := by decide
    have c2 : (0 : Int) ≤ 2 ∧ (2 : Int) < 4 := by decide
    have c3 : (0 : Int) ≤ 3 ∧ (3 : Int) < 4 := by decide
    rw [m4, if_pos rfl]
    simp only [n0, n2, n3, if_pos c0, if_pos c2, if_pos c3, mode_loop]
    by_cases h1 : w0.length = 1
    · obtain ⟨a, rfl⟩ : ∃ a, w0 = [a] := List.length_eq_one_iff.1 h1
      have s1 : ((ba [a]).size : Int) = 1 := rfl
      have b0 : byteAt (ba [a]) (Int.toNat (0 : Int)) = (a.toNat : Int) := rfl
      have c1 : (0 : Int) ≤ 0 ∧ (0 : Int) < 1 := by decide
      simp only [s1, b0, if_pos c1, if_true]
      rw [wordE_eq]
      by_cases ha : (a.toNat : Int) < 48
      · rw [if_pos ha, if_neg (by omega)]
        exact ⟨_, rfl, fun e h => by cases h⟩
      · rw [if_neg ha]
        by_cases hb : (a.toNat : Int) > 51
        · rw [if_pos hb, if_neg (by omega)]
          exact ⟨_, rfl, fun e h => by cases h⟩
        · rw [if_neg hb]
          by_cases h2 : w2 = []
          · rw [if_pos (ba_noS.2 h2), if_neg (fun h => h.2.1 h2)]
            exact ⟨_, rfl, fun e h => by cases h⟩
          · rw [if_neg (fun e => h2 (ba_noS.1 e))]
            by_cases h3 : w3 = []
            · rw [if_pos (ba_noS.2 h3), if_neg (fun h => h.2.2.1 h3)]
              exact ⟨_, rfl, fun e h => by cases h⟩
            · rw [if_neg (fun e => h3 (ba_noS.1 e)), modeN_pos, stage_wrap (by omega)]
              by_cases hm : modeN w1 = 0
              · rw [if_neg (fun h => h.2.2.2 hm), decide_eq_false (fun h => h hm)]
                exact ⟨_, rfl, fun e h => by cases h⟩
              · rw [if_pos ⟨by omega, h2, h3, hm⟩, decide_eq_true hm]
                exact ⟨_, rfl, fun e h => Option.some.inj h⟩
    · have hs : ¬ (((ba w0).size : Nat) : Int) = 1 := by rw [ba_size]; omega
      rw [if_neg hs, wordE_one h1]
      exact ⟨_, rfl, fun e h => by cases h⟩
  · rw [if_neg (by rw [List.length_map]; omega), wordE_len h4]
    exact ⟨_, rfl, fun e h => by cases h⟩

theorem impl_mode (w : List UInt8) : impl_modeOf.s (ba w) = some (if w = fileW then 1 else if w = runW then 2 else if w = treeW then 3 else 0) := by
  have hl : fillElems [((0 : Nat), ByteArray.mk #[(102 : UInt8), (105 : UInt8), (108 : UInt8), (101 : UInt8)]), ((1 : Nat), ByteArray.mk #[(114 : UInt8), (117 : UInt8), (110 : UInt8)]), ((2 : Nat), ByteArray.mk #[(116 : UInt8), (114 : UInt8), (101 : UInt8), (101 : UInt8)])] (List.replicate (3 : Nat) noS) = [fileB, runB, treeB] := rfl
  have l3 : ((([fileB, runB, treeB] : List ByteArray).length : Nat) : Int) = 3 := rfl
  have k0 : nth Ty.str [fileB, runB, treeB] (Int.toNat (0 : Int)) = ba fileW := rfl
  have k1 : nth Ty.str [fileB, runB, treeB] (Int.toNat (1 : Int)) = ba runW := rfl
  have k2 : nth Ty.str [fileB, runB, treeB] (Int.toNat (2 : Int)) = ba treeW := rfl
  have i0 : IntKind.i64.wrap ((0 : Int) + 1) = 1 := by decide
  have i1 : IntKind.i64.wrap ((1 : Int) + 1) = 2 := by decide
  have i2 : IntKind.i64.wrap ((2 : Int) + 1) = 3 := by decide
  have i3 : IntKind.i64.wrap ((-1 : Int) + 1) = 0 := by decide
  have c0 : (0 : Int) < 3 := by decide
  have c1 : (1 : Int) < 3 := by decide
  have c2 : (2 : Int) < 3 := by decide
  have c3 : ¬ (3 : Int) < 3 := by decide
  have d0 : (0 : Int) ≤ 0 ∧ (0 : Int) < 3 := by decide
  have d1 : (0 : Int) ≤ 1 ∧ (1 : Int) < 3 := by decide
  have d2 : (0 : Int) ≤ 2 ∧ (2 : Int) < 3 := by decide
  have hall : slices_Index___string_string_.s [fileB, runB, treeB] (ba w) = some (if w = fileW then 0 else if w = runW then 1 else if w = treeW then 2 else -1) := by
    rw [slices_Index___string_string_.e, l3, slices_Index___string_string__L2.e, if_pos c0, l3, if_pos d0, k0, i0]
    by_cases h1 : w = fileW
    · rw [if_pos (ba_inj.2 h1), if_pos h1]
    rw [if_neg (fun e => h1 (ba_inj.1 e)), if_neg h1, slices_Index___string_string__L2.e, if_pos c1, l3, if_pos d1, k1, i1]
    by_cases h2 : w = runW
    · rw [if_pos (ba_inj.2 h2), if_pos h2]
    rw [if_neg (fun e => h2 (ba_inj.1 e)), if_neg h2, slices_Index___string_string__L2.e, if_pos c2, l3, if_pos d2, k2, i2]
    by_cases h3 : w = treeW
    · rw [if_pos (ba_inj.2 h3), if_pos h3]
    rw [if_neg (fun e => h3 (ba_inj.1 e)), if_neg h3, slices_Index___string_string__L2.e, if_neg c3]
  rw [impl_modeOf.e, hl, hall, Option.bind_some]
  congr 1
  repeat' split
  all_goals first | exact i0 | exact i1 | exact i2 | exact i3

def c48 : ByteArray := ByteArray.mk #[(48 : UInt8)]
def c51 : ByteArray := ByteArray.mk #[(51 : UInt8)]
theorem blt_one (a b : UInt8) : BLt (ba [a]) (ba [b]) ↔ (a.toNat : Int) < (b.toNat : Int) := by
  unfold BLt
  rw [ba_data, ba_data]
  simp only [Op.bytesLess]
  constructor
  · intro h
    have : a < b := by simpa using h
    have := UInt8.lt_iff_toNat_lt.1 this
    omega
  · intro h
    have : a < b := UInt8.lt_iff_toNat_lt.2 (by omega)
    simpa using this

theorem impl_entry (E : List UInt8) (hE : E.length ≤ 1048576) : ∃ x, impl_entryOf.s (ba (E ++ [10])) = some (x, (entE E).isSome) ∧ ∀ e, entE E = some e → x = e := by
  have ht : strings_TrimSuffix.s (ba (E ++ [10])) (ByteArray.mk #[(10 : UInt8)]) = some (ba E) := by
    have := trimSuf_snoc E 10 (by omega)
    rw [if_pos rfl] at this
    exact this
  have hw : strings_Split.s (ba E) (ByteArray.mk #[(32 : UInt8)]) = some ((wds [] E).map ba) := by
    rw [impl_words (ba E) (by rw [ba_size]; exact hE)]; rfl
  rw [impl_entryOf.e, ht, Option.bind_some, hw, Option.bind_some, isWhole_snoc E 10 (by omega), Option.bind_some, if_pos (show ((10 : UInt8) == 10) = true from rfl)]
  unfold entE
  generalize wds [] E = ws
  by_cases h4 : ws.length = 4
  · obtain ⟨w0, w1, w2, w3, rfl⟩ : ∃ w0 w1 w2 w3, ws = [w0, w1, w2, w3] := by
      match ws, h4 with
      | [w0, w1, w2, w3], _ => exact ⟨w0, w1, w2, w3, rfl⟩
    have m4 : (((([w0, w1, w2, w3].map ba) : List ByteArray).length : Nat) : Int) = 4 := rfl
    have n0 : nth Ty.str ([w0, w1, w2, w3].map ba) (Int.toNat (0 : Int)) = ba w0 := rfl
    have n1 : nth Ty.str ([w0, w1, w2, w3].map ba) (Int.toNat (1 : Int)) = ba w1 := rfl
    have n2 : nth Ty.str ([w0, w1, w2, w3].map ba) (Int.toNat (2 : Int)) = ba w2 := rfl
    have n3 : nth Ty.str ([w0, w1, w2, w3].map ba) (Int.toNat (3 : Int)) = ba w3 := rfl
    have c0 : (0 : Int) ≤ 0 ∧ (0 : Int) < 4 := by decide
    have c1 : (0 : Int) ≤ 1 ∧ (1 : Int) < 4 := by decide
    have c2 : (0 : Int) ≤ 2 ∧ (2 : Int) < 4 := by decide
    have c3 : (0 : Int) ≤ 3 ∧ (3 : Int) < 4 := by decide
    rw [m4, if_pos rfl]
    simp only [n0, n1, n2, n3, if_pos c0, if_pos c1, if_pos c2, if_pos c3, impl_mode, impl_m, Option.bind_some]
    by_cases h1 : w0.length = 1
    · obtain ⟨a, rfl⟩ : ∃ a, w0 = [a] := List.length_eq_one_iff.1 h1
      have s1 : ((ba [a]).size : Int) = 1 := rfl
      have b0 : byteAt (ba [a]) (Int.toNat (0 : Int)) = (a.toNat : Int) := rfl
      have c1' : (0 : Int) ≤ 0 ∧ (0 : Int) < 1 := by decide
      simp only [s1, b0, if_pos c1', if_true]
      have q1 : BLt (ba [a]) (ByteArray.mk #[(48 : UInt8)]) ↔ (a.toNat : Int) < 48 := blt_one a 48
      have q2 : (BLt (ba [a]) (ByteArray.mk #[(51 : UInt8)]) ∨ ba [a] = ByteArray.mk #[(51 : UInt8)]) ↔ (a.toNat : Int) ≤ 51 := by
        have e1 : BLt (ba [a]) (ByteArray.mk #[(51 : UInt8)]) ↔ (a.toNat : Int) < 51 := blt_one a 51
        have e2 : (ba [a] = ByteArray.mk #[(51 : UInt8)]) ↔ (a.toNat : Int) = 51 := by
          rw [show (ByteArray.mk #[(51 : UInt8)]) = ba [51] from rfl, ba_inj]
          have := byte_eqc a 51
          constructor
          · intro h; exact this.2 (by simpa using h)
          · intro h; rw [this.1 h]
        rw [e1, e2]
        omega
      rw [wordE_eq]
      by_cases ha : (a.toNat : Int) < 48
      · rw [if_pos (q1.2 ha), if_neg (by omega)]
        exact ⟨_, rfl, fun e h => by cases h⟩
      · rw [if_neg (fun e => ha (q1.1 e))]
        by_cases hb : (a.toNat : Int) ≤ 51
        rotate_left
        · rw [if_neg (fun e => hb (q2.1 e)), if_neg (by omega)]
          exact ⟨_, rfl, fun e h => by cases h⟩
        · rw [if_pos (q2.2 hb)]
          by_cases h2 : w2 = []
          · rw [if_pos (ba_noS.2 h2), if_neg (fun h => h.2.1 h2)]
            exact ⟨_, rfl, fun e h => by cases h⟩
          · rw [if_neg (fun e => h2 (ba_noS.1 e))]
            by_cases h3 : w3 = []
            · rw [if_pos (ba_noS.2 h3), if_neg (fun h => h.2.2.1 h3)]
              exact ⟨_, rfl, fun e h => by cases h⟩
            · rw [if_neg (fun e => h3 (ba_noS.1 e)), stage_wrap (by omega)]
              unfold modeN isM
              by_cases m1 : w1 = fileW
              · simp only [if_pos m1]
                rw [if_pos ⟨by omega, h2, h3, by decide⟩]
                exact ⟨_, rfl, fun e h => Option.some.inj h⟩
              · simp only [if_neg m1]
                by_cases m2 : w1 = runW
                · simp only [if_pos m2]
                  rw [if_pos ⟨by omega, h2, h3, by decide⟩]
                  exact ⟨_, rfl, fun e h => Option.some.inj h⟩
                · simp only [if_neg m2]
                  have hno : ¬ ((48 ≤ (a.toNat : Int) ∧ (a.toNat : Int) ≤ 51) ∧ w2 ≠ [] ∧ w3 ≠ [] ∧ (0 : Int) ≠ 0) := fun h => h.2.2.2 rfl
                  simp only [if_neg hno]
                  by_cases m3 : w1 = treeW
                  · simp only [if_pos m3]; exact ⟨_, rfl, fun e h => by cases h⟩
                  · simp only [if_neg m3]; exact ⟨_, rfl, fun e h => by cases h⟩
    · have hs : ¬ (((ba w0).size : Nat) : Int) = 1 := by rw [ba_size]; omega
      rw [if_neg hs, wordE_one h1]
      exact ⟨_, rfl, fun e h => by cases h⟩
  · rw [if_neg (by rw [List.length_map]; omega), wordE_len h4]
    exact ⟨_, rfl, fun e h => by cases h⟩
/-- a line without its line feed has no entry -/
theorem impl_entry_no (L : List UInt8) (hL : L.length ≤ 1048576) (hn : L.getLast? ≠ some 10) : ∃ x, impl_entryOf.s (ba L) = some (x, false) := by
  rcases List.eq_nil_or_concat L with rfl | ⟨E, b, hE⟩
  · have hw : strings_Split.s (ba []) (ByteArray.mk #[(32 : UInt8)]) = some (wordsL (ba [])) := impl_words (ba []) (by rw [ba_size]; simp)
    have ht : strings_TrimSuffix.s (ba []) (ByteArray.mk #[(10 : UInt8)]) = some (ba []) := trimSuf_nil
    rw [impl_entryOf.e, ht, Option.bind_some, hw, Option.bind_some, isWhole_nil, Option.bind_some, if_neg (fun e => by cases e)]
    exact ⟨_, rfl⟩
  · rw [List.concat_eq_append] at hE
    subst hE
    have hb : b ≠ 10 := fun e => hn (by rw [e]; simp)
    have hl : E.length + 1 ≤ 1048576 := by simpa using hL
    have ht : strings_TrimSuffix.s (ba (E ++ [b])) (ByteArray.mk #[(10 : UInt8)]) = some (ba (E ++ [b])) := by
      have := trimSuf_snoc E b (by omega)
      rw [if_neg hb] at this
      exact this
    have hw : strings_Split.s (ba (E ++ [b])) (ByteArray.mk #[(32 : UInt8)]) = some (wordsL (ba (E ++ [b]))) := impl_words _ (by rw [ba_size]; exact hL)
    rw [impl_entryOf.e, ht, Option.bind_some, hw, Option.bind_some, isWhole_snoc E b (by omega), Option.bind_some, if_neg (fun e => hb (beq_iff_eq.1 e))]
    exact ⟨_, rfl⟩
end Go.Proofs.YthooeghlplhlnaaGreatDoor.Ev
