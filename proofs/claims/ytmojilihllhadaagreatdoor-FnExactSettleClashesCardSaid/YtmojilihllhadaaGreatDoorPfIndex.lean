/- Names of objects, entries, the faults of an index: both ways tell the same. -/
import Derived.Test.YtmojilihllhadaaGreatDoorPfPath
import Derived.Lib.SlTrimSet
set_option linter.unusedVariables false
set_option linter.unusedSimpArgs false
namespace Go.Proofs.YtmojilihllhadaaGreatDoor.Ev
open Go

/-! #### names of objects -/
def hxP (c : Int) : Prop := 48 ≤ c ∧ c ≤ 57 ∨ 97 ≤ c ∧ c ≤ 102
instance (c : Int) : Decidable (hxP c) := by unfold hxP; infer_instance
def hx (b : UInt8) : Bool := decide (hxP (b.toNat : Int))
theorem id_step (s : ByteArray) (i : Int) (h : i < 5) (h0 : 0 ≤ i ∧ i < (s.size : Int)) : spec_IsId_L4.s s i = if hxP (byteAt s i.toNat) then spec_IsId_L4.s s (IntKind.i64.wrap (i + 1)) else some false := by
  conv => lhs; rw [spec_IsId_L4.e, if_pos h, if_pos h0]
  generalize byteAt s i.toNat = c
  generalize spec_IsId_L4.s s (IntKind.i64.wrap (i + 1)) = v
  by_cases hn : hxP c
  · rw [if_pos hn]
    unfold hxP at hn
    repeat' split
    all_goals first | rfl | (exfalso; omega)
  · rw [if_neg hn]
    unfold hxP at hn
    repeat' split
    all_goals first | rfl | (exfalso; omega)
theorem id_loop (D : List UInt8) (hD : D.length = 5) : ∀ (k i : Nat), i + k = 5 → spec_IsId_L4.s (ba D) i = some ((D.drop i).all hx)
  | 0, i, h => by rw [spec_IsId_L4.e, if_neg (by omega), List.drop_eq_nil_of_le (by omega)]; rfl
  | k + 1, i, h => by
    have hi : i < D.length := by omega
    rw [id_step _ _ (by omega) (by rw [ba_size]; omega), wrap_succ (by omega), id_loop D hD k (i + 1) (by omega), Int.toNat_natCast, ba_byte hi, List.drop_eq_getElem_cons hi, List.all_cons]
    by_cases hn : hxP ((D[i].toNat : Nat) : Int)
    · rw [if_pos hn]; unfold hx; rw [decide_eq_true hn, Bool.true_and]
    · rw [if_neg hn]; unfold hx; rw [decide_eq_false hn, Bool.false_and]
def hexL : List UInt8 := [48, 49, 50, 51, 52, 53, 54, 55, 56, 57, 97, 98, 99, 100, 101, 102]
theorem hx_fin : ∀ n : _root_.Fin 256, hexL.contains (UInt8.ofNat n.val) = hx (UInt8.ofNat n.val) := by decide +kernel
theorem hx_cut (b : UInt8) : hexL.contains b = hx b := by
  have := hx_fin ⟨b.toNat, b.toNat_lt⟩
  simpa using this
theorem trim_nil (l cs : List UInt8) : Go.Lib.trimS l cs = [] ↔ (l.all fun b => cs.contains b) = true := by
  unfold Go.Lib.trimS Go.Lib.trimLeftS Go.Lib.trimRightS
  constructor
  · intro h
    have h1 : ∀ x ∈ (l.reverse.dropWhile (cs.contains ·)).reverse, cs.contains x = true := by
      intro x hx
      generalize (l.reverse.dropWhile (cs.contains ·)).reverse = m at h hx
      induction m with
      | nil => cases hx
      | cons a t ih =>
        rw [List.dropWhile_cons] at h
        split at h
        · rename_i ha
          rcases List.mem_cons.1 hx with rfl | hx
          · exact ha
          · exact ih h hx
        · cases h
    have h2 : l.reverse.dropWhile (cs.contains ·) = [] := by
      cases hd : l.reverse.dropWhile (cs.contains ·) with
      | nil => rfl
      | cons a t =>
        exfalso
        have ha := h1 a (by rw [hd]; simp)
        have hh := List.head?_dropWhile_not (cs.contains ·) l.reverse
        rw [hd] at hh
        simp only [List.head?_cons] at hh
        rw [ha] at hh
        cases hh
    have h3 : ∀ (m : List UInt8), m.dropWhile (cs.contains ·) = [] → ∀ x ∈ m, cs.contains x = true := by
      intro m
      induction m with
      | nil => intro _ x hx; cases hx
      | cons a t ih =>
        intro h x hx
        rw [List.dropWhile_cons] at h
        split at h
        · rename_i ha
          rcases List.mem_cons.1 hx with rfl | hx
          · exact ha
          · exact ih h x hx
        · cases h
    rw [List.all_eq_true]
    exact fun x hx => h3 _ h2 x (by simpa using hx)
  · intro h
    have h2 : l.reverse.dropWhile (cs.contains ·) = [] := by
      rw [List.all_eq_true] at h
      have : ∀ m : List UInt8, (∀ x ∈ m, cs.contains x = true) → m.dropWhile (cs.contains ·) = [] := by
        intro m
        induction m with
        | nil => intro _; rfl
        | cons a t ih =>
          intro h
          rw [List.dropWhile_cons, if_pos (h a (by simp))]
          exact ih fun x hx => h x (by simp [hx])
      exact this _ fun x hx => h x (by simpa using hx)
    rw [h2]; rfl
def hexC : ByteArray := ByteArray.mk #[(48 : UInt8), (49 : UInt8), (50 : UInt8), (51 : UInt8), (52 : UInt8), (53 : UInt8), (54 : UInt8), (55 : UInt8), (56 : UInt8), (57 : UInt8), (97 : UInt8), (98 : UInt8), (99 : UInt8), (100 : UInt8), (101 : UInt8), (102 : UInt8)]
theorem trim_hex (l : List UInt8) : ((trimB (ba l) hexC).toList == noS.toList) = l.all hx := by
  rw [Bool.eq_iff_iff, beq_iff_eq, noS_toList]
  have e : (trimB (ba l) hexC).toList = Go.Lib.trimS l hexL := ba_toList _
  rw [e, trim_nil]
  simp only [hx_cut]
def btc : ByteArray := ByteArray.mk #[(98 : UInt8), (116 : UInt8), (99 : UInt8)]
def isL (a : UInt8) : Bool := a == 98 || a == 116 || a == 99
theorem isL_fin : ∀ n : _root_.Fin 256, decide (Go.Lib.indexByte [98, 116, 99] (UInt8.ofNat n.val) < 0) = !isL (UInt8.ofNat n.val) := by decide +kernel
theorem isL_ix (a : UInt8) : decide (Go.Lib.indexByte [98, 116, 99] a < 0) = !isL a := by
  have := isL_fin ⟨a.toNat, a.toNat_lt⟩
  simpa using this
def isId (s : ByteArray) : Bool := s.data.toList.length == 5 && isL (s.data.toList.headD 0) && (s.data.toList.drop 1).all hx
theorem byte_eqc (b c : UInt8) : ((b.toNat : Int) = (c.toNat : Int)) ↔ b = c := by
  constructor
  · intro h; exact UInt8.toNat_inj.1 (by omega)
  · rintro rfl; rfl
theorem spec_isId (s : ByteArray) : spec_IsId.s s = some (isId s) := by
  have hsz : s.size = s.data.toList.length := Go.Lib.size_eq s
  rw [spec_IsId.e]
  unfold isId
  by_cases h5 : s.data.toList.length = 5
  · rw [if_pos (by omega)]
    generalize hD : s.data.toList = D at h5
    have hs : s = ba D := by rw [← hD, ba_self]
    subst hs
    have hlp := id_loop D h5 4 1 rfl
    have hlp : spec_IsId_L4.s (ba D) (1 : Int) = some ((D.drop 1).all hx) := hlp
    have hb : byteAt (ba D) (Int.toNat (0 : Int)) = ((D.headD 0).toNat : Int) := by
      rw [show Int.toNat (0 : Int) = 0 from rfl, ba_byte (by omega)]
      cases D with
      | nil => cases h5
      | cons a t => rfl
    have e5 : (D.length == 5) = true := by rw [h5]; rfl
    have hp : (0 : Int) ≤ 0 ∧ (0 : Int) < ((ba D).size : Int) := by rw [ba_size]; omega
    simp only [if_pos hp]
    rw [hlp, hb, e5, Bool.true_and]
    unfold isL
    generalize D.headD 0 = a
    have c1 : ((a.toNat : Int) = 98) ↔ a = 98 := byte_eqc a 98
    have c2 : ((a.toNat : Int) = 116) ↔ a = 116 := byte_eqc a 116
    have c3 : ((a.toNat : Int) = 99) ↔ a = 99 := byte_eqc a 99
    simp only [c1, c2, c3]
    by_cases a1 : a = 98
    · rw [if_pos a1, a1]; rfl
    rw [if_neg a1]
    by_cases a2 : a = 116
    · rw [if_pos a2, a2]; rfl
    rw [if_neg a2]
    by_cases a3 : a = 99
    · rw [if_pos a3, a3]; rfl
    · rw [if_neg a3, beq_eq_false_iff_ne.2 a1, beq_eq_false_iff_ne.2 a2, beq_eq_false_iff_ne.2 a3]; rfl
  · rw [if_neg (by omega), beq_eq_false_iff_ne.2 h5]; rfl
theorem impl_isId (s : ByteArray) : impl_IsId.s s = some (isId s) := by
  have hsz : s.size = s.data.toList.length := Go.Lib.size_eq s
  rw [impl_IsId.e]
  unfold isId
  by_cases h5 : s.data.toList.length = 5
  · rw [if_pos (by omega)]
    generalize hD : s.data.toList = D at h5
    have hs : s = ba D := by rw [← hD, ba_self]
    subst hs
    have hb : byteAt (ba D) (Int.toNat (0 : Int)) = ((D.headD 0).toNat : Int) := by
      rw [show Int.toNat (0 : Int) = 0 from rfl, ba_byte (by omega)]
      cases D with
      | nil => cases h5
      | cons a t => rfl
    have e5 : (D.length == 5) = true := by rw [h5]; rfl
    have ex : (ba D).extract (Int.toNat (1 : Int)) (ba D).size = ba (D.drop 1) := by
      rw [ba_size, show Int.toNat (1 : Int) = 1 from rfl, ba_extract]
      rw [List.take_of_length_le (by simp)]
    have hi : strings_IndexByte.s (ByteArray.mk #[(98 : UInt8), (116 : UInt8), (99 : UInt8)]) ((D.headD 0).toNat : Int) = some (Go.Lib.indexByte [98, 116, 99] (D.headD 0)) := by
      rw [strings_IndexByte.e, stringslite_IndexByte.e, Option.bind_some]
      congr 2
      simp
    rw [if_pos (by rw [ba_size]; omega), hb, hi, ex, e5, Bool.true_and, Option.bind_some]
    have := isL_ix (D.headD 0)
    cases hl : isL (D.headD 0) with
    | true =>
      rw [hl] at this
      rw [if_neg (by simpa using this), if_pos (by rw [ba_size]; omega), if_pos (by rw [ba_size]; simp; omega)]
      have := trim_hex (D.drop 1)
      unfold hexC at this
      rw [this, Bool.true_and]
    | false =>
      rw [hl] at this
      rw [if_pos (by simpa using this)]; rfl
  · rw [if_neg (by omega), beq_eq_false_iff_ne.2 h5]; rfl

theorem letter1 : spec_l5Letter.s 1 = some (ba [98]) := by rw [spec_l5Letter.e, if_pos (by decide), if_pos (by decide)]; rfl
theorem letter2 : spec_l5Letter.s 2 = some (ba [116]) := by rw [spec_l5Letter.e, if_pos (by decide), if_pos (by decide)]; rfl
theorem letter3 : spec_l5Letter.s 3 = some (ba [99]) := by rw [spec_l5Letter.e, if_pos (by decide), if_pos (by decide)]; rfl
theorem isOf_gen (s : ByteArray) (k : Int) (c : UInt8) (h1 : spec_l5Letter.s k = some (ba [c])) (h2 : 1 ≤ k ∧ k ≤ 3) (h3 : byteAt btc (IntKind.i64.wrap (k - 1)).toNat = (c.toNat : Int)) :
    spec_l6Is.s s k = some (isId s && s.data.toList.headD 0 == c) ∧ impl_isIdOf.s k s = some (isId s && s.data.toList.headD 0 == c) := by
  rw [spec_l6Is.e, impl_isIdOf.e, spec_isId, impl_isId, Option.bind_some, Option.bind_some]
  cases hi : isId s with
  | false => exact ⟨rfl, rfl⟩
  | true =>
    have hsz : s.size = s.data.toList.length := Go.Lib.size_eq s
    have h5 : s.data.toList.length = 5 := by
      unfold isId at hi
      simp only [Bool.and_eq_true, beq_iff_eq] at hi
      exact hi.1.1
    generalize hD : s.data.toList = D at h5
    have hs : s = ba D := by rw [← hD, ba_self]
    subst hs
    cases D with
    | nil => cases h5
    | cons a t =>
      have ht : t.length = 4 := by simpa using h5
      have hw : IntKind.i64.wrap (k - 1) = k - 1 := wrap_id (by omega) (by omega)
      have hb : byteAt (ba (a :: t)) (Int.toNat (0 : Int)) = (a.toNat : Int) := rfl
      have hx : (ba (a :: t)).extract 0 (Int.toNat (1 : Int)) = ba [a] := by
        rw [show Int.toNat (1 : Int) = 1 from rfl, ba_extract]; rfl
      have hbs : ((btc.size : Nat) : Int) = 3 := rfl
      constructor
      · rw [if_pos rfl, if_pos (by rw [ba_size, List.length_cons]; omega), h1, Option.bind_some, hx, ba_toList, ba_toList]
        simp
      · rw [if_pos rfl, if_pos (by rw [ba_size, List.length_cons]; omega), if_pos (by show _ ∧ _ < ((btc.size : Nat) : Int); rw [hbs, hw]; omega)]
        show some (_ == byteAt btc _) = _
        rw [h3, hb, byte_eq]
        simp
def isB (s : ByteArray) : Bool := isId s && s.data.toList.headD 0 == 98
theorem spec_isB (s : ByteArray) : spec_l6Is.s s 1 = some (isB s) := (isOf_gen s 1 98 letter1 (by omega) rfl).1
theorem impl_isB (s : ByteArray) : impl_isIdOf.s 1 s = some (isB s) := (isOf_gen s 1 98 letter1 (by omega) rfl).2

/-! #### the order of entries -/
@[reducible] def stg (x : T_Entry.den) : Int := x.2.1
def ltE (x y : T_Entry.den) : Prop := cmp x.1 y.1 < 0 ∨ (x.1 = y.1 ∧ stg x < stg y)
theorem ltE_asymm {x y : T_Entry.den} (h : ltE x y) : ¬ ltE y x := by
  rintro k
  rcases h with h | ⟨e, h⟩ <;> rcases k with k | ⟨e', k⟩
  · have := cmp_trans h k; rw [cmp_self] at this; omega
  · rw [e', cmp_self] at h; omega
  · rw [e, cmp_self] at k; omega
  · omega
theorem ltE_cot {z x : T_Entry.den} (y : T_Entry.den) (h : ltE z x) : ltE z y ∨ ltE y x := by
  by_cases hzy : z.1 = y.1
  · rcases h with h | ⟨e, h⟩
    · exact .inr (.inl (hzy ▸ h))
    · by_cases hs : stg z < stg y
      · exact .inl (.inr ⟨hzy, hs⟩)
      · exact .inr (.inr ⟨hzy ▸ e, by omega⟩)
  · by_cases hc : cmp z.1 y.1 < 0
    · exact .inl (.inl hc)
    · have hyz := cmp_flip hc hzy
      rcases h with h | ⟨e, h⟩
      · exact .inr (.inl (cmp_trans hyz h))
      · exact .inr (.inl (e ▸ hyz))
theorem ltE_tri {x y : T_Entry.den} (h : ¬ ltE x y) (k : ¬ ltE y x) : x.1 = y.1 ∧ stg x = stg y := by
  have he : x.1 = y.1 := by
    apply Classical.byContradiction
    intro hne
    by_cases hc : cmp x.1 y.1 < 0
    · exact h (.inl hc)
    · exact k (.inl (cmp_flip hc hne))
  refine ⟨he, ?_⟩
  have h1 : ¬ stg x < stg y := fun hh => h (.inr ⟨he, hh⟩)
  have h2 : ¬ stg y < stg x := fun hh => k (.inr ⟨he.symm, hh⟩)
  omega
def ceI (x y : T_Entry.den) : Int := if cmp x.1 y.1 = 0 then (if stg x < stg y then -1 else if stg x > stg y then 1 else 0) else cmp x.1 y.1
theorem or2 (a b : Int) : cmp_Or_int_.s (fillElems [((0 : Nat), a), ((1 : Nat), b)] (List.replicate (2 : Nat) (0 : Int))) = some (if a = 0 then b else a) := by
  rw [show fillElems [((0 : Nat), a), ((1 : Nat), b)] (List.replicate (2 : Nat) (0 : Int)) = [a, b] from rfl, cmp_Or_int_.e, cmp_Or_int__L3.e, if_pos (by simp), if_pos (by simp)]
  have n0 : nth (Ty.int IntKind.i64) [a, b] (Int.toNat (0 : Int)) = a := rfl
  have n1 : nth (Ty.int IntKind.i64) [a, b] (Int.toNat (1 : Int)) = b := rfl
  have w1 : IntKind.i64.wrap ((0 : Int) + 1) = 1 := by decide
  have w2 : IntKind.i64.wrap ((1 : Int) + 1) = 2 := by decide
  rw [n0]
  by_cases ha : a = 0
  · rw [if_pos ha, if_pos ha, w1, cmp_Or_int__L3.e, if_pos (by simp), if_pos (by simp), n1, w2]
    by_cases hb : b = 0
    · rw [if_pos hb, cmp_Or_int__L3.e, if_neg (by simp), hb]
    · rw [if_neg hb]
  · rw [if_neg ha, if_neg ha]
theorem ce_s (x y : T_Entry.den) : impl_compareEntries.s x y = some (ceI x y) := by
  rw [impl_compareEntries.e, strings_Compare.e, bytealg_CompareString.e, cmp_Compare_int64_.e, cmp_isNaN_int64_.e, cmp_isNaN_int64_.e]
  simp only [Option.bind_some, bne_self_eq_false, Bool.false_eq_true, if_false]
  have hc : Go.Lib.compareBytes x.1.data.toList y.1.data.toList = cmp x.1 y.1 := rfl
  rw [hc]
  unfold ceI
  by_cases h1 : stg x < stg y
  · rw [if_pos h1, if_pos h1, Option.bind_some, or2, Option.bind_some]
  · rw [if_neg h1, if_neg h1]
    by_cases h2 : stg x > stg y
    · rw [if_pos h2, if_pos h2, Option.bind_some, or2, Option.bind_some]
    · rw [if_neg h2, if_neg h2, Option.bind_some, or2, Option.bind_some]
theorem ceI_lt (x y : T_Entry.den) : ceI x y < 0 ↔ ltE x y := by
  unfold ceI ltE
  by_cases h0 : cmp x.1 y.1 = 0
  · have he := cmp_eq h0
    rw [if_pos h0]
    constructor
    · intro h
      split at h
      · rename_i hh; exact .inr ⟨he, hh⟩
      · split at h <;> omega
    · rintro (h | ⟨_, h⟩)
      · omega
      · rw [if_pos h]; omega
  · rw [if_neg h0]
    constructor
    · exact .inl
    · rintro (h | ⟨e, _⟩)
      · exact h
      · rw [e, cmp_self] at h0; exact absurd rfl h0

/-! #### the faults of an index -/
def inS (k : Int) : Bool := decide (0 ≤ k ∧ k ≤ 3)
theorem spec_in (k : Int) : spec_l1In.s k 0 3 = some (inS k) := by
  rw [spec_l1In.e]; unfold inS
  by_cases h : k ≥ 0
  · rw [if_pos h]; congr 1; rw [Bool.eq_iff_iff, decide_eq_true_iff, decide_eq_true_iff]; omega
  · rw [if_neg h]; congr 1; symm; rw [decide_eq_false_iff_not]; omega
theorem impl_in (k : Int) : impl_within.s k 0 3 = some (inS k) := by
  rw [impl_within.e]; unfold inS
  by_cases h : k ≥ 0
  · rw [if_pos h]; congr 1; rw [Bool.eq_iff_iff, decide_eq_true_iff, decide_eq_true_iff]; omega
  · rw [if_neg h]; congr 1; symm; rw [decide_eq_false_iff_not]; omega
def isM (k : Int) : Bool := decide (k = 1 ∨ k = 2)
theorem spec_m (k : Int) : spec_l10Mode.s k = some (isM k) := by
  rw [spec_l10Mode.e]; unfold isM
  by_cases h : k = 1
  · rw [if_pos h]; congr 1; symm; exact decide_eq_true (.inl h)
  · rw [if_neg h]; congr 1; rw [Bool.eq_iff_iff, beq_iff_eq, decide_eq_true_iff]; omega
theorem impl_m (k : Int) : impl_isFileMode.s k = some (isM k) := by
  rw [impl_isFileMode.e]; unfold isM
  by_cases h : k = 1
  · rw [if_pos h]; congr 1; symm; exact decide_eq_true (.inl h)
  · rw [if_neg h]; congr 1; rw [Bool.eq_iff_iff, beq_iff_eq, decide_eq_true_iff]; omega
/-- an entry behind another -/
def behP (x y : T_Entry.den) : Prop := ltE x y ∧ (x.1 = y.1 → stg x ≠ 0)
theorem beh_spec (x y : T_Entry.den) (hx : 0 ≤ stg x) : ∃ b, spec_l10Behind.s x y = some b ∧ (b = true ↔ behP x y) := by
  have heq : spec_l10Behind.s x y = if x.1 = y.1 then (if stg x < stg y then some (decide (stg x > 0)) else some false) else some (Op.bytesLess x.1.toList y.1.toList) := spec_l10Behind.e x y
  rw [heq]
  unfold behP ltE
  by_cases he : x.1 = y.1
  · rw [if_pos he]
    by_cases hl : stg x < stg y
    · rw [if_pos hl]
      refine ⟨_, rfl, ?_⟩
      rw [decide_eq_true_iff]
      constructor
      · intro h; exact ⟨.inr ⟨he, hl⟩, fun _ => by omega⟩
      · rintro ⟨_, h⟩
        have := h he
        omega
    · rw [if_neg hl]
      refine ⟨_, rfl, ?_⟩
      constructor
      · intro h; cases h
      · rintro ⟨h | ⟨_, h⟩, _⟩
        · rw [he, cmp_self] at h; omega
        · exact absurd h hl
  · rw [if_neg he]
    refine ⟨_, rfl, ?_⟩
    have hb : Op.bytesLess x.1.toList y.1.toList = true ↔ cmp x.1 y.1 < 0 := by
      have := blt_iff x.1 y.1
      unfold BLt at this
      rw [← this, Go.Lib.toList_data, Go.Lib.toList_data]
    rw [hb]
    constructor
    · intro h; exact ⟨.inl h, fun e => absurd e he⟩
    · rintro ⟨h | ⟨e, _⟩, _⟩
      · exact h
      · exact absurd e he
/-- what is sound of an entry by itself -/
def okE (e : T_Entry.den) : Prop := inS e.2.1 = true
structure OkIx (l : List T_Entry.den) (i : Nat) : Prop where
  st : ∀ j, (h : j < i) → (h' : j < l.length) → 0 ≤ (stg l[j]) ∧ (stg l[j]) ≤ 3
  md : ∀ j, (h : j < i) → (h' : j < l.length) → pf (l[j] : T_Entry.den).1 = 0 ∧ isM (l[j] : T_Entry.den).2.2.1 = true ∧ isB (l[j] : T_Entry.den).2.2.2.1 = true
  beh : ∀ j, (h : j + 1 < i) → (h' : j + 1 < l.length) → behP l[j] l[j + 1]
theorem index_loop (l : List T_Entry.den) (hl : l.length ≤ 1048576) (hp : ∀ e ∈ l, (e.1 : ByteArray).size ≤ 1048576) : ∀ (k i : Nat), i + k = l.length → OkIx l i →
    ∃ r, spec_IndexFault_L4.s l i = some r ∧ impl_IndexFault_L4.s l l l.length i = some r ∧ (r = 0 → OkIx l l.length)
  | 0, i, h, ho => ⟨0, by rw [spec_IndexFault_L4.e, if_neg (by omega)], by rw [impl_IndexFault_L4.e, if_neg (by omega)], fun _ => by rw [show l.length = i by omega]; exact ho⟩
  | k + 1, i, h, ho => by
    have hi : i < l.length := by omega
    have hsz := hp _ (List.getElem_mem hi)
    have hib : i < 4611686018427387904 := by omega
    have c1 : ((i : Nat) : Int) < (l.length : Int) := by omega
    have c2 : 0 ≤ ((i : Nat) : Int) ∧ ((i : Nat) : Int) < (l.length : Int) := by omega
    rw [spec_IndexFault_L4.e, impl_IndexFault_L4.e, if_pos c1, if_pos c2, if_pos c1, if_pos c2]
    simp only [Int.toNat_natCast, nth_at (t := T_Entry) hi, wrap_succ hib, spec_pf _ hsz, impl_pf _ hsz, Option.bind_some, spec_in, impl_in, spec_m, impl_m, spec_isB, impl_isB]
    have hpc := pf_cases (l[i] : T_Entry.den).1
    by_cases h1 : pf (l[i] : T_Entry.den).1 = 0
    rotate_left
    · rw [if_neg h1, if_neg h1]
      exact ⟨_, rfl, by congr 1; omega, fun e => absurd e h1⟩
    rw [if_pos h1, if_pos h1]
    by_cases h2 : inS (stg l[i]) = true
    rotate_left
    · rw [if_neg h2, if_neg h2]
      exact ⟨_, rfl, rfl, fun e => by cases e⟩
    rw [if_pos h2, if_pos h2]
    by_cases h3 : isM (l[i] : T_Entry.den).2.2.1 = true
    rotate_left
    · rw [if_neg h3, if_neg h3]
      exact ⟨_, rfl, rfl, fun e => by cases e⟩
    rw [if_pos h3, if_pos h3]
    by_cases h4 : isB (l[i] : T_Entry.den).2.2.2.1 = true
    rotate_left
    · rw [if_neg h4, if_neg h4]
      exact ⟨_, rfl, rfl, fun e => by cases e⟩
    rw [if_pos h4, if_pos h4]
    have hst : 0 ≤ (stg l[i]) ∧ (stg l[i]) ≤ 3 := by unfold inS at h2; exact of_decide_eq_true h2
    have st' : ∀ j, (h : j < i + 1) → (h' : j < l.length) → 0 ≤ (stg l[j]) ∧ (stg l[j]) ≤ 3 := by
      intro j hj hj'
      by_cases hji : j = i
      · subst hji; exact hst
      · exact ho.st j (by omega) hj'
    have md' : ∀ j, (h : j < i + 1) → (h' : j < l.length) → pf (l[j] : T_Entry.den).1 = 0 ∧ isM (l[j] : T_Entry.den).2.2.1 = true ∧ isB (l[j] : T_Entry.den).2.2.2.1 = true := by
      intro j hj hj'
      by_cases hji : j = i
      · subst hji; exact ⟨h1, h3, h4⟩
      · exact ho.md j (by omega) hj'
    by_cases h0 : (i : Int) > 0
    rotate_left
    · rw [if_neg h0, if_neg h0]
      exact index_loop l hl hp k (i + 1) (by omega) ⟨st', md', fun j hj _ => by omega⟩
    have hi1 : i - 1 < l.length := by omega
    have hs0 := (ho.st (i - 1) (by omega) hi1).1
    rw [if_pos h0, if_pos h0]
    simp (disch := omega) only [if_pos, wrap_pred, Int.toNat_natCast, nth_at (t := T_Entry) hi1, ce_s, Option.bind_some]
    obtain ⟨b, hb1, hb2⟩ := beh_spec l[i - 1] l[i] hs0
    rw [hb1, Option.bind_some]
    by_cases hbe : behP l[i - 1] l[i]
    · have hlt := (ceI_lt l[i - 1] l[i]).2 hbe.1
      rw [if_pos (hb2.2 hbe), if_neg (by omega)]
      have rec_ := index_loop l hl hp k (i + 1) (by omega) ⟨st', md', fun j hj hj' => by
        by_cases hji : j + 1 = i
        · subst hji; exact hbe
        · exact ho.beh j (by omega) hj'⟩
      by_cases he : (l[i - 1] : T_Entry.den).1 = (l[i] : T_Entry.den).1
      · rw [if_pos he, if_neg (hbe.2 he)]; exact rec_
      · rw [if_neg he]; exact rec_
    · have hbf : ¬ b = true := fun e => hbe (hb2.1 e)
      rw [if_neg hbf]
      refine ⟨1, rfl, ?_, fun e => by cases e⟩
      by_cases hlt : ltE l[i - 1] l[i]
      · have hc := (ceI_lt l[i - 1] l[i]).2 hlt
        have he : (l[i - 1] : T_Entry.den).1 = (l[i] : T_Entry.den).1 := Classical.byContradiction fun hne => hbe ⟨hlt, fun e => absurd e hne⟩
        have hz : (stg l[i - 1]) = 0 := Classical.byContradiction fun hne => hbe ⟨hlt, fun _ => hne⟩
        rw [if_neg (by omega), if_pos he, if_pos hz]
      · have hc : ¬ ceI l[i - 1] l[i] < 0 := fun h => hlt ((ceI_lt _ _).1 h)
        rw [if_pos (by omega)]
theorem indexFault_all (l : List T_Entry.den) (hl : l.length ≤ 1048576) (hp : ∀ e ∈ l, (e.1 : ByteArray).size ≤ 1048576) :
    ∃ r, spec_IndexFault.s l = some r ∧ impl_IndexFault.s l = some r ∧ (r = 0 → OkIx l l.length ∧ l.length ≤ 200) := by
  rw [spec_IndexFault.e, impl_IndexFault.e]
  by_cases h : (l.length : Int) > 200
  · rw [if_pos h, if_pos h]; exact ⟨_, rfl, rfl, fun e => by cases e⟩
  · rw [if_neg h, if_neg h]
    obtain ⟨r, h1, h2, h3⟩ := index_loop l hl hp l.length 0 (by omega) ⟨fun j hj => by omega, fun j hj => by omega, fun j hj => by omega⟩
    exact ⟨r, h1, h2, fun e => ⟨h3 e, by omega⟩⟩
end Go.Proofs.YtmojilihllhadaaGreatDoor.Ev
