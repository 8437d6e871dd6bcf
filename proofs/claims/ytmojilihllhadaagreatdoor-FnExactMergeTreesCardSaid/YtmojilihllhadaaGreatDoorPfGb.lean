/- PfMg, PfFl, PfMgT, PfMgB, PfMgC. -/
import Derived.Test.YtmojilihllhadaaGreatDoorPfGa
set_option linter.unusedVariables false
set_option linter.unusedSimpArgs false
namespace Go.Proofs.YtmojilihllhadaaGreatDoor.Ev
open Go
theorem lns_flat : ∀ (l cur : List UInt8), (lns cur l).flatten = cur ++ l
  | [], cur => by cases cur <;> simp [lns]
  | b :: r, cur => by
    rw [lns_cons]
    cases b == 10
    · simpa using lns_flat r (cur ++ [b])
    · simpa using lns_flat r []
theorem lns_ne : ∀ (l cur : List UInt8), ∀ x ∈ lns cur l, x ≠ []
  | [], cur, x, hx => by
    cases cur with
    | nil => simp [lns] at hx
    | cons a t => simp [lns] at hx; subst hx; simp
  | b :: r, cur, x, hx => by
    rw [lns_cons] at hx
    cases hb : b == 10 with
    | false => rw [hb] at hx; exact lns_ne r _ x hx
    | true =>
      rw [hb] at hx
      rcases List.mem_cons.1 hx with rfl | hx
      · simp
      · exact lns_ne r _ x hx
theorem lns_end : ∀ (l cur : List UInt8), l.getLast? = some 10 → ∀ x ∈ lns cur l, x.getLast? = some 10
  | [], cur, h, x, hx => by cases h
  | b :: r, cur, h, x, hx => by
    rw [lns_cons] at hx
    cases hb : b == 10 with
    | false =>
      rw [hb] at hx
      cases r with
      | nil =>
        simp at h
        subst h
        simp at hb
      | cons c t => exact lns_end (c :: t) _ (by simpa using h) x hx
    | true =>
      rw [hb] at hx
      rcases List.mem_cons.1 hx with rfl | hx
      · have := eq_of_beq hb
        subst this
        simp
      · cases r with
        | nil => simp [lns] at hx
        | cons c t => exact lns_end (c :: t) _ (by simpa using h) x hx
def whl (x : List UInt8) : List UInt8 := if x.getLast? = some 10 then x else x ++ [10]
def mgT : List (List UInt8) → List UInt8
  | [] => []
  | [x] => x
  | x :: y :: r => whl x ++ mgT (y :: r)
theorem mgT_cons (x : List UInt8) {B : List (List UInt8)} (h : B ≠ []) : mgT (x :: B) = whl x ++ mgT B := by
  cases B with
  | nil => exact absurd rfl h
  | cons y r => rfl
theorem mgT_app (A : List (List UInt8)) {B : List (List UInt8)} (h : B ≠ []) : mgT (A ++ B) = (A.map whl).flatten ++ mgT B := by
  induction A with
  | nil => rfl
  | cons x A ih =>
    rw [List.cons_append, mgT_cons x (by simp [h]), ih]
    simp
theorem whl_end {L : List (List UInt8)} (h : ∀ x ∈ L, x.getLast? = some 10) : L.map whl = L := by
  conv => rhs; rw [← List.map_id L]
  refine List.map_congr_left fun x hx => ?_
  unfold whl
  rw [if_pos (h x hx)]; rfl
theorem mgT_end {L : List (List UInt8)} (h : ∀ x ∈ L, x.getLast? = some 10) : mgT L = L.flatten := by
  induction L with
  | nil => rfl
  | cons x L ih =>
    cases L with
    | nil => simp [mgT]
    | cons y r =>
      rw [mgT_cons x (by simp), ih fun z hz => h z (by simp [hz])]
      unfold whl
      rw [if_pos (h x (by simp))]
      simp
theorem mgT_split (A B : List (List UInt8)) {t : List UInt8} (ht : t.getLast? = some 10) : mgT (A ++ ([t] ++ B)) = mgT (A ++ (lns [] t ++ B)) := by
  have hne : lns [] t ≠ [] := by
    intro e
    have := lns_flat t []
    rw [e] at this
    simp at this
    subst this
    cases ht
  have hend := lns_end t [] ht
  rw [mgT_app A (by simp), mgT_app A (by simp [hne])]
  congr 1
  cases B with
  | nil =>
    rw [List.append_nil, List.append_nil, mgT_end hend, lns_flat]
    simp [mgT]
  | cons b B =>
    rw [mgT_app [t] (by simp), mgT_app (lns [] t) (by simp), whl_end hend, lns_flat]
    simp [whl, ht]
theorem mgT_flat {β : Type} {sp ip : β → List (List UInt8)} (h : ∀ c, sp c = ip c ∨ ∃ t, t.getLast? = some 10 ∧ sp c = [t] ∧ ip c = lns [] t) : ∀ (cs : List β) (A : List (List UInt8)), mgT (A ++ cs.flatMap sp) = mgT (A ++ cs.flatMap ip)
  | [], A => rfl
  | c :: cs, A => by
    rw [List.flatMap_cons, List.flatMap_cons]
    rcases h c with e | ⟨t, ht, e1, e2⟩
    · rw [e, ← List.append_assoc, ← List.append_assoc]
      exact mgT_flat h cs (A ++ ip c)
    · rw [e1, e2, mgT_split A _ ht, ← List.append_assoc, ← List.append_assoc]
      exact mgT_flat h cs (A ++ lns [] t)
def fl (l : List ByteArray) : List UInt8 := (l.map (·.data.toList)).flatten
theorem fl_len (l : List ByteArray) : (fl l).length = tot l := by
  unfold fl tot
  rw [List.length_flatten, List.map_map]
  congr 1
theorem tot_lines (s : ByteArray) : tot (linesL s) = s.size := by
  have h1 : fl (linesL s) = s.data.toList := by
    unfold fl linesL
    rw [List.map_map]
    have : ∀ (l cur : List UInt8), ((lns cur l).map ((·.data.toList) ∘ ba)).flatten = cur ++ l := by
      intro l
      induction l with
      | nil => intro cur; cases cur <;> simp [lns, ba]
      | cons b r ih =>
        intro cur
        rw [lns_cons]
        cases hb : (b == 10) with
        | true =>
          show (((cur ++ [b]) :: lns [] r).map _).flatten = _
          rw [List.map_cons, List.flatten_cons, ih []]
          simp [ba]
        | false =>
          show ((lns (cur ++ [b]) r).map _).flatten = _
          rw [ih]; simp
    exact this _ []
  rw [← fl_len, h1]
  exact (Go.Lib.size_eq s).symm
theorem lines_len (s : ByteArray) : (linesL s).length ≤ s.size := by
  have key : ∀ (l cur : List UInt8), (lns cur l).length ≤ cur.length + l.length := by
    intro l
    induction l with
    | nil => intro cur; cases cur <;> simp [lns]
    | cons b r ih =>
      intro cur
      rw [lns_cons]
      cases hb : (b == 10) with
      | true =>
        have := ih []
        show ((cur ++ [b]) :: lns [] r).length ≤ _
        simp only [List.length_cons, List.length_nil] at this ⊢
        omega
      | false =>
        have := ih (cur ++ [b])
        show (lns (cur ++ [b]) r).length ≤ _
        simp only [List.length_append, List.length_cons, List.length_nil] at this ⊢
        omega
  have := key s.data.toList []
  unfold linesL
  rw [List.length_map, Go.Lib.size_eq s]
  simpa using this
theorem lines_ne (s : ByteArray) : ∀ x ∈ linesL s, (x : ByteArray).size ≠ 0 := by
  intro x hx
  unfold linesL at hx
  obtain ⟨y, hy, rfl⟩ := List.mem_map.1 hx
  have := lns_ne _ _ y hy
  rw [ba_size]
  intro e
  exact this (List.length_eq_zero_iff.1 e)
def ed (L : List ByteArray) : List UInt8 := (L.map fun s => whl s.data.toList).flatten
theorem whl_len (x : List UInt8) : (whl x).length ≤ x.length + 1 := by unfold whl; split <;> simp
theorem ed_drop (L : List ByteArray) {i : Nat} (h : i < L.length) : ed (L.drop i) = whl L[i].data.toList ++ ed (L.drop (i + 1)) := by rw [List.drop_eq_getElem_cons h]; rfl
theorem ed_len : ∀ L : List ByteArray, (ed L).length ≤ tot L + L.length
  | [] => by simp [ed]
  | a :: r => by
    have h1 := ed_len r
    have h2 := whl_len a.data.toList
    have h3 : a.size = a.data.toList.length := Go.Lib.size_eq a
    have h4 : ed (a :: r) = whl a.data.toList ++ ed r := rfl
    have h5 : tot (a :: r) = a.size + tot r := rfl
    rw [h4, List.length_append, List.length_cons]
    omega
theorem last10 {D : List UInt8} (h : D ≠ []) : byteAt (ba D) (D.length - 1) = 10 ↔ D.getLast? = some 10 := by
  have hl : D.length - 1 < D.length := by have := List.length_pos_iff.2 h; omega
  rw [ba_byte hl, List.getLast?_eq_getElem?, List.getElem?_eq_getElem hl]
  constructor
  · intro h
    congr 1
    exact UInt8.toNat_inj.1 (by show _ = 10; omega)
  · intro h
    have := Option.some.inj h
    rw [this]; rfl
theorem lf1 : (ByteArray.mk #[(10 : UInt8)]) = ba [10] := rfl
theorem ba_app2 (a b : List UInt8) : ba a ++ ba b = ba (a ++ b) := by apply ba_ext; simp [ba]
theorem spec_ended_loop (L : List ByteArray) (hl : L.length ≤ 100000000) (hn : ∀ s ∈ L, (s : ByteArray).size ≠ 0) : ∀ (k i : Nat) (T : List UInt8), i + k = L.length → T.length + tot (L.drop i) + k ≤ 400000000 → spec_l4Ended_L3.s L (ba T) (i : Int) = some (ba (T ++ ed (L.drop i)))
  | 0, i, T, h, hT => by
    rw [spec_l4Ended_L3.e, if_neg (by omega), List.drop_eq_nil_of_le (by omega)]
    simp [ed]
  | k + 1, i, T, h, hT => by
    have hi : i < L.length := by omega
    have htd : tot (L.drop i) = L[i].size + tot (L.drop (i + 1)) := by rw [List.drop_eq_getElem_cons hi]; rfl
    have h0 := hn _ (List.getElem_mem hi)
    rw [spec_l4Ended_L3.e, ed_drop L hi]
    generalize hD : L[i].data.toList = D at *
    have hs : L[i] = ba D := by rw [← hD, ba_self]
    have hsz : L[i].size = D.length := by rw [hs, ba_size]
    have hne : D ≠ [] := by rintro rfl; exact h0 (by rw [hsz]; rfl)
    have hn1 : nth Ty.str L i = ba D := by rw [nth_at (t := .str) hi, hs]
    rw [hsz] at htd h0
    simp (disch := first | omega | (simp only [ba_size]; omega)) only [if_pos, Int.toNat_natCast, hn1, ba_size, wrap_pred, wrap_succ, ba_app2, lf1, List.length_cons, List.length_nil]
    by_cases hb : D.getLast? = some 10
    · have hw : whl D = D := if_pos hb
      rw [if_pos ((last10 hne).2 hb), spec_ended_loop L hl hn k (i + 1) _ (by omega) (by rw [List.length_append]; omega), hw, List.append_assoc]
    · have hw : whl D = D ++ [10] := if_neg hb
      rw [if_neg fun e => hb ((last10 hne).1 e)]
      simp (disch := first | omega | (simp only [List.length_append, List.length_cons, List.length_nil]; omega)) only [if_pos]
      rw [spec_ended_loop L hl hn k (i + 1) _ (by omega) (by simp only [List.length_append, List.length_cons, List.length_nil]; omega), hw]
      simp
theorem spec_ended (L : List ByteArray) (hl : L.length ≤ 100000000) (ht : tot L ≤ 100000000) (hn : ∀ s ∈ L, (s : ByteArray).size ≠ 0) : spec_l4Ended.s L = some (ba (ed L)) := by
  rw [spec_l4Ended.e]
  have := spec_ended_loop L hl hn L.length 0 [] (by omega) (by simp; omega)
  rw [List.drop_zero, List.nil_append] at this
  exact this
def clT (c : T_Chunk.den) : List UInt8 := [60, 60, 60, 60, 60, 60, 60, 10] ++ ed c.2.2.1 ++ [124, 124, 124, 124, 124, 124, 124, 10] ++ ed c.2.1 ++ [61, 61, 61, 61, 61, 61, 61, 10] ++ ed c.2.2.2.1 ++ [62, 62, 62, 62, 62, 62, 62, 10]
theorem clT_end (c : T_Chunk.den) : (clT c).getLast? = some 10 := by unfold clT; rw [List.getLast?_append]; rfl
theorem clT_len {nb : Nat} {c : T_Chunk.den} (h : SmallC nb c) : (clT c).length ≤ 3 * (nb + 50000) + 32 := by
  have h1 := ed_len c.2.1
  have h2 := ed_len c.2.2.1
  have h3 := ed_len c.2.2.2.1
  have := h.b1; have := h.o1; have := h.t1; have := h.b2; have := h.o2; have := h.t2
  unfold clT
  simp only [List.length_append, List.length_cons, List.length_nil]
  omega
theorem impl_whole_s (D : List UInt8) (h : D.length ≤ 4000000000) : impl_whole.s (ba D) = some (ba (whl D)) := by
  rw [impl_whole.e, impl_isWhole.e, strings_HasSuffix.e, stringslite_HasSuffix.e]
  have s1 : (ByteArray.mk #[(10 : UInt8)]).size = 1 := rfl
  rw [s1, ba_size]
  rcases List.eq_nil_or_concat D with rfl | ⟨E, b, rfl⟩
  · have c0 : ¬ ((([] : List UInt8).length : Int) ≥ ((1 : Nat) : Int)) := by simp
    simp only [if_neg c0, Option.bind_some, Bool.false_eq_true, if_false]
    rw [if_pos (by simp)]
    rfl
  · rw [List.concat_eq_append] at h ⊢
    have hl : (E ++ [b]).length = E.length + 1 := by simp
    have hw : IntKind.i64.wrap (((E ++ [b]).length : Int) - ((1 : Nat) : Int)) = (E.length : Int) := by rw [hl]; have := wrap_pred (i := E.length + 1) (by omega) (by omega); simpa using this
    have hx : ((ba (E ++ [b])).extract E.length (E ++ [b]).length).toList = [b] := by rw [ba_extract, ba_toList, hl]; simp
    have hr : (ByteArray.mk #[(10 : UInt8)]).toList = [10] := nl_toList
    rw [hl] at hw
    rw [hl] at hx
    rw [hl] at h ⊢
    rw [if_pos (by omega), hw, if_pos (by omega), Int.toNat_natCast, hx, hr, Option.bind_some, Option.bind_some, Option.bind_some]
    unfold whl
    by_cases hb : b = 10
    · subst hb
      rw [if_pos (by simp), if_pos (by simp)]
    · rw [if_neg (show ¬ (([b] : List UInt8) == [10]) = true by simp [hb]), if_neg (show ¬ (E ++ [b]).getLast? = some 10 by simp [hb]), if_pos (by omega), lf1, ba_app2]
theorem impl_wl_loop (L : List ByteArray) (hl : L.length ≤ 100000000) : ∀ (k i : Nat) (T : List UInt8), i + k = L.length → T ≠ [] → T.length + tot (L.drop i) + k ≤ 400000000 →
    impl_wholeLines_L3v1.s L L.length (i : Int) (strBytes (ba T)).length (strBytes (ba T)) = some (ba (T ++ ed (L.drop i)))
  | 0, i, T, h, hn, hT => by
    have hpos := List.length_pos_iff.2 hn
    rw [impl_wholeLines_L3v1.e, if_neg (by omega), List.drop_eq_nil_of_le (by omega), strBytes_length, if_pos hpos, if_pos ⟨rfl, hpos, by omega⟩, bytesStr_back]
    simp [ed]
  | k + 1, i, T, h, hn, hT => by
    have hi : i < L.length := by omega
    have htd : tot (L.drop i) = L[i].size + tot (L.drop (i + 1)) := by rw [List.drop_eq_getElem_cons hi]; rfl
    rw [impl_wholeLines_L3v1.e, ed_drop L hi]
    generalize hD : L[i].data.toList = D at *
    have hs : L[i] = ba D := by rw [← hD, ba_self]
    have hsz : L[i].size = D.length := by rw [hs, ba_size]
    have hn1 : nth Ty.str L i = ba D := by rw [nth_at (t := .str) hi, hs]
    have hw := whl_len D
    rw [hsz] at htd
    rw [if_pos (by omega), if_pos (by omega), Int.toNat_natCast, hn1, impl_whole_s D (by omega), Option.bind_some, wrap_succ (by omega), strBytes_app, if_pos (by rw [strBytes_length, strBytes_length]; omega),
      impl_wl_loop L hl k (i + 1) _ (by omega) (by simp [hn]) (by rw [List.length_append]; omega), List.append_assoc]
theorem whl_ne (x : List UInt8) : whl x ≠ [] := by
  unfold whl
  split
  · rintro rfl; rename_i h; cases h
  · simp
theorem impl_wl (L : List ByteArray) (hl : L.length ≤ 100000000) (ht : tot L ≤ 100000000) : impl_wholeLines.s L = some (ba (ed L)) := by
  rw [impl_wholeLines.e, impl_wholeLines_L3.e]
  by_cases h0 : 0 < L.length
  · have hd := ed_drop L h0
    have htd : tot L = L[0].size + tot (L.drop 1) := by
      conv => lhs; rw [← List.drop_zero (l := L), List.drop_eq_getElem_cons h0]
      rfl
    rw [List.drop_zero] at hd
    rw [hd]
    generalize hD : L[0].data.toList = D at *
    have hs : L[0] = ba D := by rw [← hD, ba_self]
    have hsz : L[0].size = D.length := by rw [hs, ba_size]
    have hn1 : nth Ty.str L (Int.toNat 0) = ba D := (nth_at (t := .str) h0).trans hs
    have hw := whl_len D
    rw [hsz] at htd
    have hw1 : IntKind.i64.wrap ((0 : Int) + 1) = ((1 : Nat) : Int) := wrap_succ (i := 0) (by omega)
    rw [if_pos (by omega), if_pos (by omega), hn1, impl_whole_s D (by omega), Option.bind_some, if_pos (by rw [strBytes_length]; omega), hw1,
      impl_wl_loop L hl (L.length - 1) 1 _ (by omega) (whl_ne D) (by omega)]
  · have : L = [] := List.eq_nil_of_length_eq_zero (by omega)
    subst this
    rw [if_neg (by simp)]
    rfl
theorem cl1 : (ByteArray.mk #[(60 : UInt8), (60 : UInt8), (60 : UInt8), (60 : UInt8), (60 : UInt8), (60 : UInt8), (60 : UInt8), (10 : UInt8)]) = ba [60, 60, 60, 60, 60, 60, 60, 10] := rfl
theorem cl2 : (ByteArray.mk #[(124 : UInt8), (124 : UInt8), (124 : UInt8), (124 : UInt8), (124 : UInt8), (124 : UInt8), (124 : UInt8), (10 : UInt8)]) = ba [124, 124, 124, 124, 124, 124, 124, 10] := rfl
theorem cl3 : (ByteArray.mk #[(61 : UInt8), (61 : UInt8), (61 : UInt8), (61 : UInt8), (61 : UInt8), (61 : UInt8), (61 : UInt8), (10 : UInt8)]) = ba [61, 61, 61, 61, 61, 61, 61, 10] := rfl
theorem cl4 : (ByteArray.mk #[(62 : UInt8), (62 : UInt8), (62 : UInt8), (62 : UInt8), (62 : UInt8), (62 : UInt8), (62 : UInt8), (10 : UInt8)]) = ba [62, 62, 62, 62, 62, 62, 62, 10] := rfl
theorem clash_both {c : T_Chunk.den} (h : SmallC 2000 c) : spec_l4Clash.s c = some (ba (clT c)) ∧ impl_clashText.s c = some (ba (clT c)) := by
  have h1 := ed_len c.2.1
  have h2 := ed_len c.2.2.1
  have h3 := ed_len c.2.2.2.1
  have a1 := h.b1; have a2 := h.o1; have a3 := h.t1; have a4 := h.b2; have a5 := h.o2; have a6 := h.t2
  have s1 := spec_ended c.2.1 (by omega) (by omega) h.nb_
  have s2 := spec_ended c.2.2.1 (by omega) (by omega) h.no_
  have s3 := spec_ended c.2.2.2.1 (by omega) (by omega) h.nt_
  have i1 := impl_wl c.2.1 (by omega) (by omega)
  have i2 := impl_wl c.2.2.1 (by omega) (by omega)
  have i3 := impl_wl c.2.2.2.1 (by omega) (by omega)
  rw [spec_l4Clash.e, impl_clashText.e, s1, s2, s3, i1, i2, i3]
  unfold clT
  generalize ed c.2.1 = A at *
  generalize ed c.2.2.1 = B at *
  generalize ed c.2.2.2.1 = C at *
  clear s1 s2 s3 i1 i2 i3
  simp only [Option.bind_some, cl1, cl2, cl3, cl4, ba_app2, ba_size]
  have z : ∀ (l : List UInt8) (α : Type) (x y : α), l.length ≤ 1000000 → (if l.length ≤ 9223372036854775807 then x else y) = x := fun l α x y h => if_pos (by omega)
  have z2 : ∀ (a b : Nat) (α : Type) (x y : α), a + b ≤ 1000000 → (if a + b ≤ 9223372036854775807 then x else y) = x := fun a b α x y h => if_pos (by omega)
  simp (disch := (simp only [List.length_append, List.length_cons, List.length_nil]; omega)) only [z2]
  exact ⟨trivial, trivial⟩
def spP (c : T_Chunk.den) : List ByteArray := if c.1 = 2 then c.2.2.2.1 else if c.1 = 4 then [ba (clT c)] else c.2.2.1
def ipP (c : T_Chunk.den) : List ByteArray := if c.1 = 2 then c.2.2.2.1 else if c.1 = 4 then linesL (ba (clT c)) else c.2.2.1
def mgB (P : List ByteArray) : List UInt8 := mgT (P.map fun s => s.data.toList)
def cnt (cs : List T_Chunk.den) : Nat := cs.countP fun c => decide (c.1 = 4)
theorem cnt_drop (cs : List T_Chunk.den) {i : Nat} (hi : i < cs.length) : cnt (cs.drop i) = (if (cs[i] : T_Chunk.den).1 = 4 then 1 else 0) + cnt (cs.drop (i + 1)) := by
  rw [List.drop_eq_getElem_cons hi]
  unfold cnt
  rw [List.countP_cons]
  by_cases h : (cs[i] : T_Chunk.den).1 = 4
  · simp [h]; omega
  · simp [h]
theorem fm_drop (cs : List T_Chunk.den) (f : T_Chunk.den → List ByteArray) {i : Nat} (hi : i < cs.length) : (cs.drop i).flatMap f = f cs[i] ++ (cs.drop (i + 1)).flatMap f := by rw [List.drop_eq_getElem_cons hi, List.flatMap_cons]
theorem spP_len {c : T_Chunk.den} (h : SmallC 2000 c) : (spP c).length ≤ 50000 := by
  have := h.o2; have := h.t2
  unfold spP
  split
  · assumption
  · split
    · simp
    · assumption
theorem ipP_len {c : T_Chunk.den} (h : SmallC 2000 c) : (ipP c).length ≤ 160000 := by
  have := h.o2; have := h.t2
  have h1 := clT_len h
  unfold ipP
  split
  · omega
  · split
    · have := lines_len (ba (clT c)); rw [ba_size] at this; omega
    · omega
theorem tot_app (a b : List ByteArray) : tot (a ++ b) = tot a + tot b := by unfold tot; simp
theorem tot_flat {n : Nat} (f : T_Chunk.den → List ByteArray) : ∀ cs : List T_Chunk.den, (∀ c ∈ cs, tot (f c) ≤ n) → tot (cs.flatMap f) ≤ cs.length * n
  | [], _ => by simp [tot]
  | c :: r, h => by
    have h1 := tot_flat f r fun x hx => h x (by simp [hx])
    have h2 := h c (by simp)
    rw [List.flatMap_cons, tot_app, List.length_cons, Nat.succ_mul]
    omega
theorem len_flat {n : Nat} (f : T_Chunk.den → List ByteArray) : ∀ cs : List T_Chunk.den, (∀ c ∈ cs, (f c).length ≤ n) → (cs.flatMap f).length ≤ cs.length * n
  | [], _ => by simp
  | c :: r, h => by
    have h1 := len_flat f r fun x hx => h x (by simp [hx])
    have h2 := h c (by simp)
    rw [List.flatMap_cons, List.length_append, List.length_cons, Nat.succ_mul]
    omega
theorem spP_tot {c : T_Chunk.den} (h : SmallC 2000 c) : tot (spP c) ≤ 160000 := by
  have := h.o1; have := h.t1
  have h1 := clT_len h
  unfold spP
  split
  · omega
  · split
    · have : tot [ba (clT c)] = (clT c).length := by unfold tot; simp [ba_size]
      omega
    · omega
theorem ipP_tot {c : T_Chunk.den} (h : SmallC 2000 c) : tot (ipP c) ≤ 160000 := by
  have := h.o1; have := h.t1
  have h1 := clT_len h
  unfold ipP
  split
  · omega
  · split
    · rw [tot_lines, ba_size]; omega
    · omega
theorem spP_ne {c : T_Chunk.den} (h : SmallC 2000 c) : ∀ s ∈ spP c, (s : ByteArray).size ≠ 0 := by
  unfold spP
  split
  · exact h.nt_
  · split
    · intro s hs
      rw [List.mem_singleton.1 hs, ba_size]
      intro e
      have := clT_end c
      rw [List.length_eq_zero_iff.1 e] at this
      cases this
    · exact h.no_
theorem spec_mg_parts (cs : List T_Chunk.den) (hl : cs.length ≤ 300) (hs : ∀ c ∈ cs, SmallC 2000 c) : ∀ (k i x : Nat) (m : List ByteArray), i + k = cs.length → m.length ≤ i * 50000 → x ≤ i →
    spec_l4Merge_L4.s cs m.length (x : Int) (i : Int) m = spec_l4Merge_L16.s (m ++ (cs.drop i).flatMap spP).length ((x + cnt (cs.drop i) : Nat) : Int) noS 0 (m ++ (cs.drop i).flatMap spP)
  | 0, i, x, m, h, hm, hx => by
    rw [spec_l4Merge_L4.e, if_neg (by omega), List.drop_eq_nil_of_le (by omega)]
    simp [cnt]
  | k + 1, i, x, m, h, hm, hx => by
    have hi : i < cs.length := by omega
    have hc := hs _ (List.getElem_mem hi)
    have hn : nth T_Chunk cs i = cs[i] := nth_at hi
    have hlen := spP_len hc
    rw [spec_l4Merge_L4.e, fm_drop cs spP hi, cnt_drop cs hi, ← List.append_assoc]
    rw [if_pos (by omega), if_pos (by omega), Int.toNat_natCast, hn, wrap_succ (by omega)]
    have hlen2 : (m ++ spP cs[i]).length ≤ (i + 1) * 50000 := by rw [List.length_append]; omega
    by_cases h2 : (cs[i] : T_Chunk.den).1 = 2
    · have e : spP cs[i] = (cs[i] : T_Chunk.den).2.2.2.1 := if_pos h2
      have n4 : ¬ (cs[i] : T_Chunk.den).1 = 4 := fun e => by rw [h2] at e; exact absurd e (by decide)
      rw [e] at hlen hlen2 ⊢
      rw [if_pos h2, if_pos (by omega), spec_mg_parts cs hl hs k (i + 1) x _ (by omega) hlen2 (by omega), if_neg n4, Nat.zero_add]
    · by_cases h4 : (cs[i] : T_Chunk.den).1 = 4
      · have e : spP cs[i] = [ba (clT cs[i])] := by unfold spP; rw [if_neg h2, if_pos h4]
        rw [e] at hlen hlen2 ⊢
        rw [if_neg h2, if_pos h4, (clash_both hc).1, Option.bind_some, fill1, if_pos (by simp; omega), wrap_succ (by omega), spec_mg_parts cs hl hs k (i + 1) (x + 1) _ (by omega) hlen2 (by omega), if_pos h4, Nat.add_assoc]
      · have e : spP cs[i] = (cs[i] : T_Chunk.den).2.2.1 := by unfold spP; rw [if_neg h2, if_neg h4]
        rw [e] at hlen hlen2 ⊢
        rw [if_neg h2, if_neg h4, if_pos (by omega), spec_mg_parts cs hl hs k (i + 1) x _ (by omega) hlen2 (by omega), if_neg h4, Nat.zero_add]
theorem mgB_drop (P : List ByteArray) {i : Nat} (hi : i + 1 < P.length) : mgB (P.drop i) = whl (P[i]'(by omega)).data.toList ++ mgB (P.drop (i + 1)) := by
  rw [List.drop_eq_getElem_cons (by omega : i < P.length)]
  unfold mgB
  rw [List.map_cons, mgT_cons]
  simp; omega
theorem mgB_last (P : List ByteArray) {i : Nat} (hi : i + 1 = P.length) : mgB (P.drop i) = (P[i]'(by omega)).data.toList := by
  rw [List.drop_eq_getElem_cons (by omega : i < P.length), List.drop_eq_nil_of_le (by omega)]
  rfl
theorem spec_mg_join (P : List ByteArray) (hl : P.length ≤ 100000000) (hn : ∀ s ∈ P, (s : ByteArray).size ≠ 0) (x : Int) : ∀ (k i : Nat) (T : List UInt8), i + k = P.length → T.length + tot (P.drop i) + k ≤ 400000000 →
    spec_l4Merge_L16.s P.length x (ba T) (i : Int) P = some (ba (T ++ mgB (P.drop i)), x)
  | 0, i, T, h, hT => by
    rw [spec_l4Merge_L16.e, if_neg (by omega), List.drop_eq_nil_of_le (by omega)]
    simp [mgB, mgT]
  | k + 1, i, T, h, hT => by
    have hi : i < P.length := by omega
    have htd : tot (P.drop i) = P[i].size + tot (P.drop (i + 1)) := by rw [List.drop_eq_getElem_cons hi]; rfl
    have h0 := hn _ (List.getElem_mem hi)
    have hd : i + 1 < P.length → mgB (P.drop i) = whl (P[i]).data.toList ++ mgB (P.drop (i + 1)) := mgB_drop P
    have hd' : i + 1 = P.length → mgB (P.drop i) = (P[i]).data.toList := mgB_last P
    rw [spec_l4Merge_L16.e]
    generalize hD : P[i].data.toList = D at *
    have hs : P[i] = ba D := by rw [← hD, ba_self]
    have hsz : P[i].size = D.length := by rw [hs, ba_size]
    have hne : D ≠ [] := by rintro rfl; exact h0 (by rw [hsz]; rfl)
    have hn1 : nth Ty.str P i = ba D := by rw [nth_at (t := .str) hi, hs]
    rw [hsz] at htd h0
    rw [if_pos (by omega), if_pos (by omega), Int.toNat_natCast, hn1, if_pos (by simp only [ba_size]; omega), wrap_pred (by omega) (by omega), wrap_succ (by omega)]
    by_cases hlt : i + 1 < P.length
    · rw [hd hlt, if_pos (by omega), if_pos (by omega), if_pos (by omega)]
      simp (disch := first | omega | (simp only [ba_size]; omega)) only [if_pos, ba_size, wrap_pred, Int.toNat_natCast, ba_app2, lf1]
      by_cases hb : D.getLast? = some 10
      · have hw : whl D = D := if_pos hb
        rw [if_pos ((last10 hne).2 hb), spec_mg_join P hl hn x k (i + 1) _ (by omega) (by rw [List.length_append]; omega), hw, List.append_assoc]
      · have hw : whl D = D ++ [10] := if_neg hb
        rw [if_neg fun e => hb ((last10 hne).1 e)]
        rw [if_pos (by simp only [List.length_append, List.length_cons, List.length_nil]; omega)]
        rw [spec_mg_join P hl hn x k (i + 1) _ (by omega) (by simp only [List.length_append, List.length_cons, List.length_nil]; omega), hw]
        simp
    · rw [hd' (by omega), if_neg (by omega), ba_app2, spec_mg_join P hl hn x k (i + 1) _ (by omega) (by rw [List.length_append]; omega), List.drop_eq_nil_of_le (by omega)]
      simp [mgB, mgT]
def ansM (x : Int) (T : List UInt8) : T_MergeResult.den := if tf (ba T) = 0 then ((0 : Int), x, ba T, ()) else ((2 : Int), (0 : Int), noS, ())
theorem impl_mg_end (cs : List T_Chunk.den) (P : List ByteArray) (hl : P.length ≤ 100000000) (ht : tot P ≤ 100000000) (x : Int) : impl_mergeTexts_L3.s P.length x cs cs.length cs.length 0 0 noS P = some (ansM x (mgB P)) := by
  rw [impl_mergeTexts_L3.e, if_neg (by omega)]
  rcases List.eq_nil_or_concat P with rfl | ⟨Q, z, rfl⟩
  · have c0 : ¬ (IntKind.i64.wrap ((([] : List ByteArray).length : Int) - 1) ≥ 0) := by decide
    rw [if_neg c0, impl_tf, Option.bind_some]
    have e : mgB [] = [] := rfl
    have e2 : ba [] = noS := rfl
    rw [e]
    unfold ansM
    rw [e2]
    split <;> rfl
  · rw [List.concat_eq_append] at *
    have hln : (Q ++ [z]).length = Q.length + 1 := by simp
    have htq : tot Q ≤ 100000000 := by rw [tot_app] at ht; omega
    have htz : z.size ≤ 100000000 := by rw [tot_app] at ht; have : tot [z] = z.size := by simp [tot]
                                        omega
    have hw : IntKind.i64.wrap (((Q ++ [z]).length : Int) - 1) = (Q.length : Int) := by rw [hln]; have := wrap_pred (i := Q.length + 1) (by omega) (by omega); simpa using this
    have h1 : List.take ((Q.length : Int).toNat - 0) (List.drop 0 (Q ++ [z])) = Q := by simp
    have h2 : nth Ty.str (Q ++ [z]) (Q.length : Int).toNat = z := by rw [Int.toNat_natCast]; exact (nth_at (t := .str) (by rw [hln]; omega)).trans (by simp)
    have hel := ed_len Q
    have hm : mgB (Q ++ [z]) = ed Q ++ z.data.toList := by
      unfold mgB ed
      rw [List.map_append]
      rw [mgT_app _ (by simp)]
      rw [List.map_map]
      rfl
    have hz : z = ba z.data.toList := (ba_self z).symm
    have hzl : z.size = z.data.toList.length := Go.Lib.size_eq z
    rw [hw, if_pos (by omega), if_pos (by rw [hln]; omega), h1, impl_wl Q (by omega) htq, Option.bind_some, if_pos (by rw [hln]; omega), h2, hm]
    generalize z.data.toList = Z at *
    subst hz
    rw [if_pos (by simp only [ba_size] at *; omega), ba_app2, impl_tf, Option.bind_some]
    unfold ansM
    split <;> rfl
theorem impl_mg_loop (cs : List T_Chunk.den) (hl : cs.length ≤ 300) (hs : ∀ c ∈ cs, SmallC 2000 c) : ∀ (k i x : Nat) (m : List ByteArray), i + k = cs.length → m.length ≤ i * 160000 → x ≤ i →
    impl_mergeTexts_L3.s m.length (x : Int) cs cs.length (i : Int) 0 0 noS m = impl_mergeTexts_L3.s (m ++ (cs.drop i).flatMap ipP).length ((x + cnt (cs.drop i) : Nat) : Int) cs cs.length cs.length 0 0 noS (m ++ (cs.drop i).flatMap ipP)
  | 0, i, x, m, h, hm, hx => by
    have hi : i = cs.length := by omega
    subst hi
    rw [List.drop_eq_nil_of_le (by omega)]
    simp [cnt]
  | k + 1, i, x, m, h, hm, hx => by
    have hi : i < cs.length := by omega
    have hc := hs _ (List.getElem_mem hi)
    have hn : nth T_Chunk cs i = cs[i] := nth_at hi
    have hlen := ipP_len hc
    have hcl := clT_len hc
    conv => lhs; rw [impl_mergeTexts_L3.e]
    rw [fm_drop cs ipP hi, cnt_drop cs hi, ← List.append_assoc]
    rw [if_pos (by omega), if_pos (by omega), Int.toNat_natCast, hn, wrap_succ (by omega)]
    have hlen2 : (m ++ ipP cs[i]).length ≤ (i + 1) * 160000 := by rw [List.length_append]; omega
    by_cases h2 : (cs[i] : T_Chunk.den).1 = 2
    · have e : ipP cs[i] = (cs[i] : T_Chunk.den).2.2.2.1 := if_pos h2
      have n4 : ¬ (cs[i] : T_Chunk.den).1 = 4 := fun e => by rw [h2] at e; exact absurd e (by decide)
      rw [e] at hlen hlen2 ⊢
      rw [if_pos h2, if_pos (by omega), impl_mg_loop cs hl hs k (i + 1) x _ (by omega) hlen2 (by omega), if_neg n4, Nat.zero_add]
    · by_cases h4 : (cs[i] : T_Chunk.den).1 = 4
      · have e : ipP cs[i] = linesL (ba (clT cs[i])) := by unfold ipP; rw [if_neg h2, if_pos h4]
        rw [e] at hlen hlen2 ⊢
        rw [if_neg h2, if_pos h4, (clash_both hc).2, Option.bind_some, impl_lines _ (by rw [ba_size]; omega), Option.bind_some, if_pos (by omega), wrap_succ (by omega), impl_mg_loop cs hl hs k (i + 1) (x + 1) _ (by omega) hlen2 (by omega), if_pos h4, Nat.add_assoc]
      · have e : ipP cs[i] = (cs[i] : T_Chunk.den).2.2.1 := by unfold ipP; rw [if_neg h2, if_neg h4]
        rw [e] at hlen hlen2 ⊢
        rw [if_neg h2, if_neg h4, if_pos (by omega), impl_mg_loop cs hl hs k (i + 1) x _ (by omega) hlen2 (by omega), if_neg h4, Nat.zero_add]
theorem parts_eq (cs : List T_Chunk.den) : mgB (cs.flatMap spP) = mgB (cs.flatMap ipP) := by
  unfold mgB
  rw [List.map_flatMap, List.map_flatMap]
  have := mgT_flat (sp := fun c => (spP c).map fun s => s.data.toList) (ip := fun c => (ipP c).map fun s => s.data.toList) (fun c => by
    unfold spP ipP
    by_cases h2 : c.1 = 2
    · left; rw [if_pos h2, if_pos h2]
    · rw [if_neg h2, if_neg h2]
      by_cases h4 : c.1 = 4
      · right
        refine ⟨clT c, clT_end c, ?_, ?_⟩
        · rw [if_pos h4]; rfl
        · rw [if_pos h4]
          unfold linesL
          rw [List.map_map]
          conv => rhs; rw [← List.map_id (lns [] (clT c))]
          rfl
      · left; rw [if_neg h4, if_neg h4]) cs []
  simpa using this
theorem merge_parts (cs : List T_Chunk.den) (hl : cs.length ≤ 300) (hs : ∀ c ∈ cs, SmallC 2000 c) :
    spec_l4Merge.s cs = some (ba (mgB (cs.flatMap spP)), (cnt cs : Int)) ∧ impl_mergeTexts_L3.s 0 0 cs (cs.length : Int) 0 0 0 noS [] = some (ansM (cnt cs) (mgB (cs.flatMap spP))) := by
  have t1 := tot_flat (n := 160000) spP cs fun c hc => spP_tot (hs c hc)
  have t2 := tot_flat (n := 160000) ipP cs fun c hc => ipP_tot (hs c hc)
  have l1 := len_flat (n := 50000) spP cs fun c hc => spP_len (hs c hc)
  have l2 := len_flat (n := 160000) ipP cs fun c hc => ipP_len (hs c hc)
  have hne : ∀ s ∈ cs.flatMap spP, (s : ByteArray).size ≠ 0 := fun s h => by
    obtain ⟨c, hc, h⟩ := List.mem_flatMap.1 h
    exact spP_ne (hs c hc) s h
  have a1 := spec_mg_parts cs hl hs cs.length 0 0 [] (by omega) (by simp) (by omega)
  rw [List.drop_zero, List.nil_append, Nat.zero_add] at a1
  have a2 := spec_mg_join (cs.flatMap spP) (by omega) hne (cnt cs) (cs.flatMap spP).length 0 [] (by omega) (by rw [List.drop_zero, List.length_nil]; omega)
  rw [List.drop_zero, List.nil_append] at a2
  have b1 := impl_mg_loop cs hl hs cs.length 0 0 [] (by omega) (by simp) (by omega)
  rw [List.drop_zero, List.nil_append, Nat.zero_add] at b1
  have b2 := impl_mg_end cs (cs.flatMap ipP) (by omega) (by omega) (cnt cs)
  refine ⟨?_, ?_⟩
  · rw [spec_l4Merge.e]
    exact Eq.trans a1 a2
  · refine Eq.trans b1 (b2.trans ?_)
    rw [parts_eq]
theorem mgT_lns : ∀ (l cur : List UInt8), mgT (lns cur l) = cur ++ l
  | [], cur => by cases cur <;> simp [lns, mgT]
  | b :: r, cur => by
    rw [lns_cons]
    cases hb : b == 10 with
    | false => show mgT (lns (cur ++ [b]) r) = _; rw [mgT_lns r]; simp
    | true =>
      have := eq_of_beq hb
      subst this
      show mgT ((cur ++ [10]) :: lns [] r) = _
      have ih := mgT_lns r []
      by_cases h : lns [] r = []
      · have hr := lns_flat r []
        rw [h] at hr
        simp at hr
        subst hr
        rfl
      · rw [mgT_cons _ h, ih]
        unfold whl
        rw [if_pos (by simp)]
        simp
theorem mgB_lines (s : ByteArray) : mgB (linesL s) = s.data.toList := by
  unfold mgB linesL
  rw [List.map_map]
  have e : (lns [] s.data.toList).map ((fun s : ByteArray => s.data.toList) ∘ ba) = lns [] s.data.toList := by
    conv => rhs; rw [← List.map_id (lns [] s.data.toList)]
    rfl
  rw [e, mgT_lns]
  rfl
theorem chunks_nil (o t : List ByteArray) (ho : o.length ≤ 50000) (ht : t.length ≤ 50000) : spec_l4Chunks.s [] o t = some (putC [] [] o t) := by
  have w0 : IntKind.i64.wrap ((0 : Int) + (0 : Int)) = 0 := by decide
  have p0 : putC [] ([] : List ByteArray) [] [] = [] := rfl
  have q0 := spec_put [] [] [] [] (by simp) (by simp) (by simp) (by simp)
  rw [p0] at q0
  have q1 := spec_put [] [] o t (by simp) ho ht (by simp)
  rw [spec_l4Chunks.e, spec_partner [] o (by simp) ho, spec_partner [] t (by simp) ht, Option.bind_some, Option.bind_some, spec_l4Chunks_L8.e, spec_l4Chunks_L9.e, w0]
  rw [if_neg (by simp), if_pos (by simp), if_pos (by simp), if_pos (by omega), if_pos (by simp), if_pos (by omega), if_pos (by simp)]
  show (spec_l4Put.s [] (List.drop 0 (List.take 0 [])) (List.drop 0 (List.take 0 o)) (List.drop 0 (List.take 0 t))).bind _ = _
  have d0 : ∀ l : List ByteArray, List.drop 0 (List.take 0 l) = [] := fun l => by simp
  rw [d0, d0, d0, q0, Option.bind_some, spec_l4Chunks_L16.e, if_neg (by simp), if_pos (by simp), if_pos (by simp), if_pos (by omega), if_pos (by omega)]
  have d1 : ∀ l : List ByteArray, List.drop (Int.toNat 0) (List.take l.length l) = l := fun l => by simp
  rw [d1, d1, d1, q1, Option.bind_some]
theorem nil_clean (b c : ByteArray) (h : cnt (putC [] [] (linesL b) (linesL c)) = 0) : ba (mgB ((putC [] [] (linesL b) (linesL c)).flatMap spP)) = b ∨ ba (mgB ((putC [] [] (linesL b) (linesL c)).flatMap spP)) = c := by
  have eb : ba (mgB (linesL b)) = b := by rw [mgB_lines, ba_self]
  have ec : ba (mgB (linesL c)) = c := by rw [mgB_lines, ba_self]
  unfold putC at h ⊢
  generalize linesL b = B at *
  generalize linesL c = C at *
  by_cases h0 : ([] : List ByteArray).length + B.length + C.length = 0
  · rw [if_pos h0]
    have : B = [] := List.eq_nil_of_length_eq_zero (by omega)
    subst this
    exact .inl eb
  · rw [if_neg h0] at h ⊢
    have e : (([] ++ [ck [] B C]) : List T_Chunk.den).flatMap spP = spP (ck [] B C) := by simp
    rw [e]
    have k4 : kd [] B C ≠ 4 := fun k => by
      have : cnt (([] ++ [ck [] B C]) : List T_Chunk.den) = 1 := by
        unfold cnt ck
        simp [k]
      omega
    unfold kd at k4
    unfold spP ck kd
    by_cases hB : ([] : List ByteArray) = B
    · by_cases hC : ([] : List ByteArray) = C
      · subst hB; subst hC; simp at h0
      · right
        simp only [if_pos hB, if_neg hC]
        exact ec
    · left
      by_cases hC : ([] : List ByteArray) = C
      · simp only [if_neg hB, if_pos hC]
        exact eb
      · by_cases hBC : B = C
        · simp only [if_neg hB, if_neg hC, if_pos hBC]
          exact eb
        · simp only [if_neg hB, if_neg hC, if_neg hBC] at k4
          exact absurd rfl k4
structure Mgd (a b c : ByteArray) (r : T_MergeResult.den) : Prop where
  sp : spec_MergeTexts.s a b c = some r
  im : impl_mergeTexts.s a b c = some r
  tf : r.1 = 0 → tf r.2.2.1 = 0
  sz : r.2.2.1.size ≤ 2000
  nil : a = noS → r.1 = 0 → ¬ r.2.1 > 0 → r.2.2.1 = b ∨ r.2.2.1 = c
theorem merge_both (a b c : ByteArray) (ha : tf a = 0) (hb : tf b = 0) (hc : tf c = 0) : ∃ r, Mgd a b c r := by
  have za := tf_size ha
  have zb := tf_size hb
  have zc := tf_size hc
  have la := lines_len a
  have lb := lines_len b
  have lc := lines_len c
  have l100 : (linesL a).length ≤ 100 := by
    unfold tf at ha
    split at ha
    · cases ha
    · split at ha
      · cases ha
      · omega
  obtain ⟨r, r1, r2, r3, r4⟩ := chunks_both (nb := 2000) (base := linesL a) (ours := linesL b) (theirs := linesL c) (by omega) (by omega) (by omega) ⟨by rw [tot_lines]; omega, lines_ne a⟩ ⟨by rw [tot_lines]; omega, lines_ne b⟩ ⟨by rw [tot_lines]; omega, lines_ne c⟩
  obtain ⟨m1, m2⟩ := merge_parts r (by omega) r4
  have hn : a = noS → ba (mgB (r.flatMap spP)) = b ∨ ba (mgB (r.flatMap spP)) = c ∨ cnt r ≠ 0 := fun e => by
    subst e
    have el : linesL noS = [] := rfl
    have := chunks_nil (linesL b) (linesL c) (by omega) (by omega)
    rw [el, this] at r1
    have e2 := Option.some.inj r1
    by_cases h0 : cnt r = 0
    · rw [← e2] at h0 ⊢
      rcases nil_clean b c h0 with h | h
      · exact .inl h
      · exact .inr (.inl h)
    · exact .inr (.inr h0)
  generalize mgB (r.flatMap spP) = T at *
  refine ⟨ansM (cnt r) T, ?_, ?_, ?_, ?_, ?_⟩
  · rw [spec_MergeTexts.e, spec_l4Texts.e]
    simp only [spec_tf, ha, hb, hc, Option.bind_some, if_true]
    rw [spec_split a (by omega), spec_split b (by omega), spec_split c (by omega)]
    simp only [Option.bind_some, r1, m1, spec_tf]
    unfold ansM
    rcases tf_cases (ba T) with h | h
    · rw [if_pos h, if_pos h]
    · have h' : ¬ tf (ba T) = 0 := by omega
      rw [if_neg h', if_neg h', h]
  · rw [impl_mergeTexts.e, impl_lines a (by omega), impl_lines b (by omega), impl_lines c (by omega)]
    simp only [Option.bind_some, r2]
    exact m2
  · unfold ansM
    split
    · intro _; assumption
    · intro h; cases h
  · unfold ansM
    split
    · exact tf_size (by assumption)
    · show noS.size ≤ 2000
      exact Nat.zero_le _
  · intro e h1 h2
    have := hn e
    unfold ansM at h1 h2 ⊢
    by_cases h : tf (ba T) = 0
    · rw [if_pos h] at h1 h2 ⊢
      rcases this with k | k | k
      · exact .inl k
      · exact .inr k
      · exact absurd (show ((cnt r : Nat) : Int) > 0 by omega) h2
    · rw [if_neg h] at h1; cases h1
end Go.Proofs.YtmojilihllhadaaGreatDoor.Ev
