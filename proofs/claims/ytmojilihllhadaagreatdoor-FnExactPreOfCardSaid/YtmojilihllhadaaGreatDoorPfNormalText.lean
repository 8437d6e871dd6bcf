/- FnExactNormalText: at all texts of at most 1048576 bytes both ways answer the same. -/
import Derived.Test.YtmojilihllhadaaGreatDoorPfNormal
import Derived.Test.YtmojilihllhadaaGreatDoorPfTf
set_option linter.unusedVariables false
set_option linter.unusedSimpArgs false
namespace Go.Proofs.YtmojilihllhadaaGreatDoor.Ev
open Go

def secs (l : List T_Chunk.den) : List UInt8 := (l.map secT).flatten
def anyC (l : List T_Chunk.den) : Bool := l.any fun c => decide (knd c = 4)
theorem secs_drop (l : List T_Chunk.den) {i : Nat} (h : i < l.length) : secs (l.drop i) = secT l[i] ++ secs (l.drop (i + 1)) := by rw [List.drop_eq_getElem_cons h]; rfl
theorem anyC_drop (l : List T_Chunk.den) {i : Nat} (h : i < l.length) : anyC (l.drop i) = (decide (knd l[i] = 4) || anyC (l.drop (i + 1))) := by rw [List.drop_eq_getElem_cons h]; rfl
theorem spec_secs (l : List T_Chunk.den) (hl : l.length ≤ 200000) (hs : ∀ c ∈ l, SmallC 2000 c) : ∀ (k i : Nat) (T : List UInt8) (cl : Bool), i + k = l.length → T.length ≤ i * 12100 →
    spec_l13Normal_L5.s l (ba T) cl i = some (ba (T ++ secs (l.drop i)), cl || anyC (l.drop i))
  | 0, i, T, cl, h, hT => by
    rw [spec_l13Normal_L5.e, if_neg (by omega), List.drop_eq_nil_of_le (by omega)]
    simp [secs, anyC]
  | k + 1, i, T, cl, h, hT => by
    have hi : i < l.length := by omega
    have hc := hs _ (List.getElem_mem hi)
    have h2 := secT_len hc
    rw [spec_sec l hl i hi hc T cl (by omega), spec_secs l hl hs k (i + 1) _ _ (by omega) (by rw [List.length_append]; omega), secs_drop l hi, anyC_drop l hi, List.append_assoc, Bool.or_assoc]
def ansN (b : Bool) (T : List UInt8) : T_TextResult.den := if b = true then ((0 : Int), ba T, ()) else ((4 : Int), noS, ())
theorem impl_secs (l : List T_Chunk.den) (hl : l.length ≤ 200000) (hs : ∀ c ∈ l, SmallC 2000 c) : ∀ (k i : Nat) (T : List UInt8) (cl : Bool), i + k = l.length → T ≠ [] → T.length ≤ i * 12100 →
    impl_NormalText_L6v1.s cl l l.length i 0 noS (strBytes (ba T)).length (strBytes (ba T)) = some (ansN (cl || anyC (l.drop i)) (T ++ secs (l.drop i)))
  | 0, i, T, cl, h, hn, hT => by
    have hpos := List.length_pos_iff.2 hn
    have e1 : secs (l.drop i) = [] := by rw [List.drop_eq_nil_of_le (by omega)]; rfl
    have e2 : anyC (l.drop i) = false := by rw [List.drop_eq_nil_of_le (by omega)]; rfl
    rw [impl_NormalText_L6v1.e, if_neg (by omega), e1, e2, List.append_nil, Bool.or_false, strBytes_length]
    unfold ansN
    cases cl with
    | true => rw [if_pos rfl, if_pos rfl, if_pos hpos, if_pos ⟨rfl, hpos, by omega⟩, bytesStr_back]
    | false => rw [if_neg (fun e => by cases e), if_neg (fun e => by cases e)]
  | k + 1, i, T, cl, h, hn, hT => by
    have hi : i < l.length := by omega
    have hc := hs _ (List.getElem_mem hi)
    have h2 := secT_len hc
    rw [impl_sec1 l hl i hi hc T cl (by omega), impl_secs l hl hs k (i + 1) _ _ (by omega) (by simp [hn]) (by rw [List.length_append]; omega), secs_drop l hi, anyC_drop l hi, List.append_assoc, Bool.or_assoc]
theorem impl_secs0 (l : List T_Chunk.den) (hl : l.length ≤ 200000) (hs : ∀ c ∈ l, SmallC 2000 c) : impl_NormalText_L6.s false l l.length 0 0 noS = some (ansN (anyC l) (secs l)) := by
  by_cases h : 0 < l.length
  · have hc := hs _ (List.getElem_mem h)
    have h2 := secT_len hc
    have h3 := secs_drop l h
    have h4 := anyC_drop l h
    rw [List.drop_zero] at h3 h4
    rw [impl_sec0 l hl h hc, impl_secs l hl hs (l.length - 1) 1 _ _ (by omega) (secT_ne _) (by omega), h3, h4]
  · have hl0 : l = [] := List.length_eq_zero_iff.1 (by omega)
    subst hl0
    rw [impl_NormalText_L6.e, if_neg (by simp), if_neg (fun e => by cases e)]
    rfl

theorem tot_lines (s : ByteArray) : tot (linesL s) = s.size := by
  have h1 : fl (linesL s) = s.data.toList := by
    unfold fl linesL
    rw [List.map_map]
    have : ∀ (l cur : List UInt8), ((lns cur l).map ((·.data.toList) ∘ ba)).flatten = cur ++ l := by
      intro l
      induction l with
      | nil => intro cur; cases cur <;> simp [lns, ba]
      | cons b r ih =>
        intro cur
        rw [lns_cons]
        cases hb : (b == 10) with
        | true =>
          show (((cur ++ [b]) :: lns [] r).map _).flatten = _
          rw [List.map_cons, List.flatten_cons, ih []]
          simp [ba]
        | false =>
          show ((lns (cur ++ [b]) r).map _).flatten = _
          rw [ih]; simp
    exact this _ []
  rw [← fl_len, h1]
  exact (Go.Lib.size_eq s).symm
theorem lines_len (s : ByteArray) : (linesL s).length ≤ s.size := by
  have key : ∀ (l cur : List UInt8), (lns cur l).length ≤ cur.length + l.length := by
    intro l
    induction l with
    | nil => intro cur; cases cur <;> simp [lns]
    | cons b r ih =>
      intro cur
      rw [lns_cons]
      cases hb : (b == 10) with
      | true =>
        have := ih []
        show ((cur ++ [b]) :: lns [] r).length ≤ _
        simp only [List.length_cons, List.length_nil] at this ⊢
        omega
      | false =>
        have := ih (cur ++ [b])
        show (lns (cur ++ [b]) r).length ≤ _
        simp only [List.length_append, List.length_cons, List.length_nil] at this ⊢
        omega
  have := key s.data.toList []
  unfold linesL
  rw [List.length_map, Go.Lib.size_eq s]
  simpa using this

theorem normal_all (a b c : ByteArray) : ∃ r : T_TextResult.den, spec_NormalText.s a b c = some r ∧ impl_NormalText.s a b c = some r := by
  rw [spec_NormalText.e, impl_NormalText.e, spec_l4Texts.e]
  simp only [spec_tf, impl_tf, Option.bind_some]
  have hf : impl_firstCode.s (fillElems [((0 : Nat), tf a), ((1 : Nat), tf b), ((2 : Nat), tf c)] (List.replicate (3 : Nat) (0 : Int))) = some (fc [tf a, tf b, tf c]) := firstCode_s [tf a, tf b, tf c] (by simp)
  rw [hf, Option.bind_some]
  by_cases ha : tf a = 0
  rotate_left
  · have e : fc [tf a, tf b, tf c] = tf a := by rw [fc_cons, if_neg ha]
    rw [e, if_neg ha, Option.bind_some, if_neg ha, if_neg ha]
    exact ⟨_, rfl, rfl⟩
  by_cases hb : tf b = 0
  rotate_left
  · have e : fc [tf a, tf b, tf c] = tf b := by rw [fc_cons, if_pos ha, fc_cons, if_neg hb]
    rw [e, if_pos ha, if_neg hb, Option.bind_some, if_neg hb, if_neg hb]
    exact ⟨_, rfl, rfl⟩
  by_cases hc : tf c = 0
  rotate_left
  · have e : fc [tf a, tf b, tf c] = tf c := by rw [fc_cons, if_pos ha, fc_cons, if_pos hb, fc_cons, if_neg hc]
    rw [e, if_pos ha, if_pos hb, Option.bind_some, if_neg hc, if_neg hc]
    exact ⟨_, rfl, rfl⟩
  have e : fc [tf a, tf b, tf c] = 0 := by rw [fc_cons, if_pos ha, fc_cons, if_pos hb, fc_cons, if_pos hc]; rfl
  have za := tf_size ha
  have zb := tf_size hb
  have zc := tf_size hc
  have la := lines_len a
  have lb := lines_len b
  have lc := lines_len c
  obtain ⟨r, r1, r2, r3, r4⟩ := chunks_both (nb := 2000) (base := linesL a) (ours := linesL b) (theirs := linesL c) (by omega) (by omega) (by omega) (by rw [tot_lines]; omega) (by rw [tot_lines]; omega) (by rw [tot_lines]; omega)
  have i1 := impl_secs0 r r3 r4
  have s1 := spec_secs r r3 r4 r.length 0 [] false (by omega) (by simp)
  rw [List.drop_zero, List.nil_append, Bool.false_or] at s1
  have s1 : spec_l13Normal_L5.s r noS false (0 : Int) = _ := s1
  rw [e, if_pos ha, if_pos hb, Option.bind_some, if_pos hc, if_pos rfl, spec_l13Normal.e, spec_split a (by omega), spec_split b (by omega), spec_split c (by omega), impl_lines a (by omega), impl_lines b (by omega), impl_lines c (by omega)]
  simp only [Option.bind_some, r1, r2, s1, i1]
  unfold ansN
  cases anyC r with
  | true => exact ⟨_, rfl, rfl⟩
  | false => exact ⟨_, rfl, rfl⟩
end Go.Proofs.YtmojilihllhadaaGreatDoor.Ev
