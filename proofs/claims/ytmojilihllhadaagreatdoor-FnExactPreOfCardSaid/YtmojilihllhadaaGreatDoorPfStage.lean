/- The files of a stage; the file of a path and a stage; a text with a byte 0. -/
import Derived.Test.YtmojilihllhadaaGreatDoorPfRow
import Derived.Test.YtmojilihllhadaaGreatDoorPfOne
import Derived.Test.YtmojilihllhadaaGreatDoorPfTf
set_option linter.unusedVariables false
set_option linter.unusedSimpArgs false
namespace Go.Proofs.YtmojilihllhadaaGreatDoor.Ev
open Go

def zF : T_File.den := (noS, (0 : Int), noS, ())
/-- is there no file? -/
def zeroF (f : T_File.den) : Prop := f.1 = noS ∧ f.2.1 = 0 ∧ f.2.2.1 = noS
instance (f : T_File.den) : Decidable (zeroF f) := by unfold zeroF; infer_instance
theorem zeroF_z : zeroF zF := ⟨rfl, rfl, rfl⟩
def toF (e : T_Entry.den) : T_File.den := (e.1, e.2.2.1, e.2.2.2.1, ())
def stageL (l : List T_Entry.den) (k : Int) : List T_File.den := l.flatMap fun e => bif decide (stg e = k) then [toF e] else []
theorem spec_stage (l : List T_Entry.den) (hl : l.length ≤ 1048576) (k : Int) : spec_l10Stage.s l k = some (stageL l k) := by
  rw [spec_l10Stage.e]
  have := row_flat0 (t := T_Entry) (L := fun i m => spec_l10Stage_L3.s l k m.length i m) (l := l) (g := fun e => bif decide (stg e = k) then [toF e] else []) (fun x => one_len) (fun i hi m hm => by
    show spec_l10Stage_L3.s l k _ _ _ = spec_l10Stage_L3.s l k _ _ _
    conv => lhs; rw [spec_l10Stage_L3.e]
    simp (disch := omega) only [if_pos, Int.toNat_natCast, nth_at hi, wrap_succ, fill1, List.length_append, List.length_cons, List.length_nil]
    by_cases h : stg l[i] = k
    · rw [if_pos h, decide_eq_true h]; rfl
    · rw [if_neg h, decide_eq_false h]
      simp)
  have h0 : spec_l10Stage_L3.s l k 0 0 [] = _ := this
  rw [h0]
  show spec_l10Stage_L3.s l k _ _ _ = _
  rw [spec_l10Stage_L3.e, if_neg (by omega)]
  rfl
def findF (fs : List T_File.den) (p : ByteArray) : T_File.den := (fs.find? fun f => decide (f.1 = p)).elim zF id
theorem spec_find7 (fs : List T_File.den) (hl : fs.length ≤ 1048576) (p : ByteArray) : spec_l7Find.s fs p = some (findF fs p) := by
  rw [spec_l7Find.e]
  have := row_first0 (t := T_File) (L := fun i => spec_l7Find_L2.s fs p i noS 0 noS) (q := fun f => decide (f.1 = p)) (r := id) (d := zF) (l := fs)
    (by show spec_l7Find_L2.s fs p _ _ _ _ = _; rw [spec_l7Find_L2.e, if_neg (by omega)]; rfl)
    (fun i hi hq => by
      show spec_l7Find_L2.s fs p _ _ _ _ = _
      rw [spec_l7Find_L2.e]
      simp (disch := omega) only [if_pos, Int.toNat_natCast, nth_at hi]
      rw [if_pos (of_decide_eq_true hq)]; rfl)
    (fun i hi hq => by
      show spec_l7Find_L2.s fs p _ _ _ _ = spec_l7Find_L2.s fs p _ _ _ _
      conv => lhs; rw [spec_l7Find_L2.e]
      simp (disch := omega) only [if_pos, Int.toNat_natCast, nth_at hi, wrap_succ]
      rw [if_neg (of_decide_eq_false hq)])
  exact this
theorem stageL_len (l : List T_Entry.den) (k : Int) : (stageL l k).length ≤ l.length := by
  unfold stageL
  induction l with
  | nil => simp
  | cons a r ih =>
    rw [List.flatMap_cons, List.length_append, List.length_cons]
    have : (bif decide (stg a = k) then [toF a] else []).length ≤ 1 := one_len
    omega
/-- the file of a path and a stage -/
def stF (l : List T_Entry.den) (p : ByteArray) (k : Int) : T_File.den := ((ofP l p).find? fun e => decide (stg e = k)).elim zF toF
theorem stF_eq (p : ByteArray) (k : Int) : ∀ l : List T_Entry.den, findF (stageL l k) p = stF l p k
  | [] => rfl
  | a :: r => by
    have ih := stF_eq p k r
    unfold findF stF stageL ofP at ih ⊢
    rw [List.flatMap_cons, List.filter_cons]
    by_cases h : stg a = k
    · by_cases hp : a.1 = p
      · have hp' : (toF a).1 = p := hp
        rw [decide_eq_true h, decide_eq_true hp, if_pos rfl, cond_true, List.singleton_append, List.find?_cons, List.find?_cons, decide_eq_true hp', decide_eq_true h]; rfl
      · have hp' : ¬ (toF a).1 = p := hp
        rw [decide_eq_true h, decide_eq_false hp, if_neg (fun e => by cases e), cond_true, List.singleton_append, List.find?_cons, decide_eq_false hp']
        exact ih
    · rw [decide_eq_false h, cond_false, List.nil_append, ih]
      by_cases hp : a.1 = p
      · rw [decide_eq_true hp, if_pos rfl, List.find?_cons, decide_eq_false h]
      · rw [decide_eq_false hp, if_neg (fun e => by cases e)]
theorem spec_st (l : List T_Entry.den) (hl : l.length ≤ 1048576) (p : ByteArray) (k : Int) : spec_l13Stage.s l p k = some (stF l p k) := by
  have h1 := stageL_len l k
  rw [spec_l13Stage.e, spec_stage l hl, Option.bind_some, spec_find7 _ (by omega), Option.bind_some, stF_eq]

/-! #### a text with a byte 0 -/
def isBin (s : ByteArray) : Bool := s.data.toList.contains 0
theorem isBin_no : isBin noS = false := rfl
theorem spec_bin (s : ByteArray) (hs : s.size ≤ 4000000000) : spec_IsBinary.s s = some (isBin s) := by
  have key : ∀ (D : List UInt8), D.length ≤ 4000000000 → ∀ (k i : Nat), i + k = D.length → spec_IsBinary_L2.s (ba D) i = some ((D.drop i).contains 0) := by
    intro D hD k
    induction k with
    | zero =>
      intro i h
      rw [spec_IsBinary_L2.e, if_neg (by rw [ba_size]; omega), List.drop_eq_nil_of_le (by omega)]; rfl
    | succ k ih =>
      intro i h
      have hi : i < D.length := by omega
      rw [spec_IsBinary_L2.e, if_pos (by rw [ba_size]; omega), if_pos (by rw [ba_size]; omega), Int.toNat_natCast, ba_byte hi, List.drop_eq_getElem_cons hi, List.contains_cons]
      by_cases h0 : D[i] = 0
      · have : ((D[i].toNat : Nat) : Int) = 0 := by rw [h0]; rfl
        rw [if_pos this, h0]; rfl
      · have hn : ¬ ((D[i].toNat : Nat) : Int) = 0 := fun e => h0 (UInt8.toNat_inj.1 (by show _ = 0; omega))
        have hb : ((0 : UInt8) == D[i]) = false := by rw [beq_eq_false_iff_ne]; exact fun e => h0 e.symm
        rw [if_neg hn, wrap_succ (by omega), ih (i + 1) (by omega), hb, Bool.false_or]
  have h1 : s.size = s.data.toList.length := Go.Lib.size_eq s
  have := key s.data.toList (by omega) s.data.toList.length 0 (by omega)
  rw [ba_self, List.drop_zero] at this
  rw [spec_IsBinary.e]
  exact this
theorem index0 : ∀ l : List UInt8, (Go.Lib.indexByte l 0 = -1 ∧ l.contains 0 = false) ∨ (0 ≤ Go.Lib.indexByte l 0 ∧ l.contains 0 = true)
  | [] => .inl ⟨rfl, rfl⟩
  | a :: r => by
    unfold Go.Lib.indexByte
    rw [List.contains_cons]
    by_cases h : a = 0
    · subst h; exact .inr ⟨by simp, rfl⟩
    · have hb : ((0 : UInt8) == a) = false := by rw [beq_eq_false_iff_ne]; exact fun e => h e.symm
      have hb' : (a == (0 : UInt8)) = false := by rw [beq_eq_false_iff_ne]; exact h
      rw [hb, hb', Bool.false_or]
      rcases index0 r with ⟨h1, h2⟩ | ⟨h1, h2⟩
      · rw [h1, h2]; exact .inl ⟨rfl, rfl⟩
      · have hn : (Go.Lib.indexByte r 0 == -1) = false := by rw [beq_eq_false_iff_ne]; omega
        rw [hn, h2]; refine .inr ⟨?_, rfl⟩
        simp; omega
theorem impl_bin (s : ByteArray) : impl_IsBinary.s s = some (isBin s) := by
  rw [impl_IsBinary.e, strings_IndexByte.e, stringslite_IndexByte.e]
  simp only [Option.bind_some]
  congr 1
  show decide (Go.Lib.indexByte s.data.toList 0 ≥ 0) = _
  unfold isBin
  rcases index0 s.data.toList with ⟨h1, h2⟩ | ⟨h1, h2⟩
  · rw [h1, h2]; rfl
  · rw [h2]; exact decide_eq_true h1
end Go.Proofs.YtmojilihllhadaaGreatDoor.Ev
