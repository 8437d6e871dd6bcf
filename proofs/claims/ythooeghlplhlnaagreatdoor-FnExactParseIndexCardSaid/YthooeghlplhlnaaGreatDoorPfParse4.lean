/- ParseIndex: both ways answer the same. -/
import Derived.Test.YthooeghlplhlnaaGreatDoorPfParse3
set_option linter.unusedVariables false
set_option linter.unusedSimpArgs false
namespace Go.Proofs.YthooeghlplhlnaaGreatDoor.Ev
open Go

/-! #### lines -/
def okLs : List (List UInt8) → Prop
  | [] => True
  | x :: [] => x ≠ []
  | x :: y :: r => (∃ E, x = E ++ [10]) ∧ okLs (y :: r)
theorem okLs_tail {x : List UInt8} {r : List (List UInt8)} (h : okLs (x :: r)) : okLs r := by
  cases r with
  | nil => exact True.intro
  | cons y r => exact h.2
theorem okLs_ne {x : List UInt8} {r : List (List UInt8)} (h : okLs (x :: r)) : x ≠ [] := by
  cases r with
  | nil => exact h
  | cons y r =>
    obtain ⟨E, rfl⟩ := h.1
    simp
theorem okLs_len : ∀ {ls : List (List UInt8)}, okLs ls → ls.length ≤ ls.flatten.length
  | [], _ => by simp
  | x :: r, h => by
    have h1 := okLs_len (okLs_tail h)
    have h2 := List.length_pos_iff.2 (okLs_ne h)
    simp only [List.length_cons, List.flatten_cons, List.length_append]
    omega
theorem lns_ok : ∀ (l cur : List UInt8), okLs (lns cur l)
  | [], [] => True.intro
  | [], c :: cur => by show (c :: cur) ≠ []; simp
  | b :: r, cur => by
    rw [lns_cons]
    cases hb : (b == 10) with
    | true =>
      have hbb := beq_iff_eq.1 hb
      subst hbb
      have := lns_ok r []
      show okLs ((cur ++ [10]) :: lns [] r)
      cases hl : lns [] r with
      | nil => show cur ++ [10] ≠ []; simp
      | cons y s => rw [hl] at this; exact ⟨⟨cur, rfl⟩, this⟩
    | false => exact lns_ok r _
theorem lns_flat : ∀ (l cur : List UInt8), (lns cur l).flatten = cur ++ l
  | [], [] => rfl
  | [], c :: cur => by simp [lns]
  | b :: r, cur => by
    rw [lns_cons]
    cases hb : (b == 10) with
    | true => show (cur ++ [b]) ++ (lns [] r).flatten = _; rw [lns_flat r []]; simp
    | false => show (lns (cur ++ [b]) r).flatten = _; rw [lns_flat r _]; simp

theorem joinB_flat (ls : List (List UInt8)) : joinB (ls.map ba) noS = ba ls.flatten := by
  unfold joinB
  have h1 : (ls.map ba).map (·.data.toList) = ls := by
    rw [List.map_map]
    conv => rhs; rw [← List.map_id ls]
    exact List.map_congr_left fun l _ => rfl
  rw [h1]
  show ba (Go.Lib.join ls []) = _
  congr 1
  cases ls with
  | nil => rfl
  | cons x r =>
    rw [Go.Lib.join_cons]
    unfold Go.Lib.joinTail
    simp

/-! #### codes -/
theorem first2 (a b : Int) : impl_firstCode.s (fillElems [((0 : Nat), a), ((1 : Nat), b)] (List.replicate (2 : Nat) (0 : Int))) = some (if a = 0 then b else a) := by
  rw [show fillElems [((0 : Nat), a), ((1 : Nat), b)] (List.replicate (2 : Nat) (0 : Int)) = [a, b] from rfl, impl_firstCode.e]
  have l2 : ((([a, b] : List Int).length : Nat) : Int) = 2 := rfl
  have n0 : nth (Ty.int IntKind.i64) [a, b] (Int.toNat (0 : Int)) = a := rfl
  have n1 : nth (Ty.int IntKind.i64) [a, b] (Int.toNat (1 : Int)) = b := rfl
  have w1 : IntKind.i64.wrap ((0 : Int) + 1) = 1 := by decide
  have w2 : IntKind.i64.wrap ((1 : Int) + 1) = 2 := by decide
  rw [impl_firstCode_L2.e, l2, if_pos (by decide), if_pos (by decide), n0, w1]
  by_cases ha : a = 0
  · rw [if_pos ha, if_pos ha, impl_firstCode_L2.e, l2, if_pos (by decide), if_pos (by decide), n1, w2]
    by_cases hb : b = 0
    · rw [if_pos hb, impl_firstCode_L2.e, if_neg (by decide), hb]
    · rw [if_neg hb]
  · rw [if_neg ha, if_neg ha]

/-! #### the end of a text -/
def endR (c : Int) (m : List T_Entry.den) (b : Bool) : T_EntriesResult.den := if c = 0 then (if b = true then ((0 : Int), (0 : Int), m, ()) else ((6 : Int), (0 : Int), [], ())) else (c, (0 : Int), [], ())
def badR (i : Nat) : T_EntriesResult.den := ((5 : Int), ((i : Nat) : Int), [], ())

structure Ents (m : List T_Entry.den) (T : List UInt8) : Prop where
  good : ∀ e ∈ m, GoodE e
  text : txt m = T
theorem bulk_txt : ∀ m : List T_Entry.den, bulk (.sl T_Entry) m ≤ (txt m).length
  | [] => by show 0 + 0 ≤ _; omega
  | e :: r => by
    have ih := bulk_txt r
    have h3 : bulk T_Entry e = (e.1 : ByteArray).size + (0 + (0 + ((e.2.2.2.1 : ByteArray).size + 0))) := rfl
    have h6 : bulk (.sl T_Entry) (e :: r) = (e :: r).length + ((e :: r).map (bulk T_Entry)).sum := rfl
    have h7 : bulk (.sl T_Entry) r = r.length + (r.map (bulk T_Entry)).sum := rfl
    have h8 := entT_len e
    have f1 : (eid e).size = (e.2.2.2.1 : ByteArray).size := rfl
    have f2 : (epa e).size = (e.1 : ByteArray).size := rfl
    rw [txt_cons, List.length_append]
    simp only [List.length_cons, List.map_cons, List.sum_cons] at h6
    omega
theorem bulk_paths {m : List T_Entry.den} (h : bulk (.sl T_Entry) m ≤ 1048576) : ∀ e ∈ m, (e.1 : ByteArray).size ≤ 1048576 := by
  intro e he
  have h2 := bulk_mem (t := T_Entry) he
  have h3 : bulk T_Entry e = (e.1 : ByteArray).size + (0 + (0 + ((e.2.2.2.1 : ByteArray).size + 0))) := rfl
  have h6 : bulk (.sl T_Entry) m = m.length + (m.map (bulk T_Entry)).sum := rfl
  omega

/-- behind a line that is no entry -/
theorem impl_tail (ls : List (List UInt8)) (m : List T_Entry.den) (hno : ls = [] ∨ ∃ x rest xe, ls = x :: rest ∧ impl_entryOf.s (ba x) = some (xe, false)) (hl : ls.length ≤ 12000) (hs : ls.flatten.length ≤ 12000)
    (hg : ∀ e ∈ m, GoodE e) (ht : (txt m).length ≤ 12000) (c : Int) (hc : impl_IndexFault.s m = some c) :
    impl_ParseIndex_L4.s m.length (ls.map ba) 0 0 m = some (if isSumL ls.flatten = true then endR c m (decide (ls.flatten = sumLn (txt m))) else badR m.length) := by
  have hml : m.length ≤ 12000 := by
    have h1 := bulk_txt m
    have h2 : bulk (.sl T_Entry) m = m.length + (m.map (bulk T_Entry)).sum := rfl
    omega
  have hend : (impl_isSumLine.s (joinB (ls.map ba) noS)).bind (fun r2 => if (r2 = true) then (impl_IndexFault.s m).bind fun r3 => (impl_entriesText.s m).bind fun r4 => (impl_sumLine.s r4).bind fun r5 => (impl_codeIf.s (!(joinB (ls.map ba) noS).toList == ByteArray.toList r5) (6 : Int)).bind fun r6 => (impl_firstCode.s (fillElems [((0 : Nat), r3), ((1 : Nat), r6)] (List.replicate (2 : Nat) (0 : Int)))).bind fun r7 => if (r7 = (0 : Int)) then some ((0 : Int), (0 : Int), m, ()) else some (r7, (0 : Int), [], ()) else some ((5 : Int), ((m.length : Nat) : Int), [], ()))
      = some (if isSumL ls.flatten = true then endR c m (decide (ls.flatten = sumLn (txt m))) else badR m.length) := by
    rw [joinB_flat, impl_sum _ (by omega), Option.bind_some]
    by_cases hS : isSumL ls.flatten = true
    · rw [if_pos hS, if_pos hS, hc, Option.bind_some, impl_text m (by omega) hg (by omega), Option.bind_some, impl_sumL _ (by omega), Option.bind_some, ba_toList, ba_toList, impl_codeIf.e]
      unfold endR
      by_cases he : ls.flatten = sumLn (txt m)
      · have e1 : ¬ ((!ls.flatten == sumLn (txt m)) = true) := by simp [he]
        rw [if_neg e1, Option.bind_some, first2, Option.bind_some, decide_eq_true he]
        by_cases h0 : c = 0
        · simp only [if_pos h0]; rfl
        · simp only [if_neg h0]
      · have e1 : ((!ls.flatten == sumLn (txt m)) = true) := by simp [he]
        rw [if_pos e1, Option.bind_some, first2, Option.bind_some, decide_eq_false he]
        by_cases h0 : c = 0
        · simp only [if_pos h0]; rfl
        · simp only [if_neg h0]
    · rw [if_neg hS, if_neg hS]; rfl
  have hcond : (ls.map ba).length ≤ (140737488355328 : Nat) ∧ (joinB (ls.map ba) noS).size ≤ (140737488355328 : Nat) := by
    rw [joinB_flat, ba_size, List.length_map]
    omega
  rw [impl_ParseIndex_L4.e]
  rcases hno with rfl | ⟨x, rest, xe, rfl, he⟩
  · rw [if_neg (by simp), if_pos hcond]
    exact hend
  · have n0 : nth Ty.str ((x :: rest).map ba) (Int.toNat (0 : Int)) = ba x := rfl
    have c0 : (((x :: rest).map ba).length : Int) > 0 := by simp
    rw [if_pos c0, if_pos ⟨by omega, c0⟩, n0, he, Option.bind_some, if_neg (fun e => by cases e), if_pos hcond]
    exact hend

theorem parse_loop (D : List UInt8) (hD : D.length ≤ 12000) (lines : List (List UInt8)) (hlok : okLs lines) (hlf : lines.flatten = D) :
    ∀ (ls pre : List (List UInt8)) (m : List T_Entry.den), lines = pre ++ ls → okLs ls → pre.length = m.length → pre.flatten = txt m → (∀ e ∈ m, GoodE e) →
    ∃ r : T_EntriesResult.den, spec_ParseIndex_L7.s (ba D) m.length (lines.map ba) false pre.length 0 0 m = some r ∧ impl_ParseIndex_L4.s m.length (ls.map ba) 0 0 m = some r ∧ bulk (.sl T_Entry) r.2.2.1 ≤ 12000 := by
  have hll := okLs_len hlok
  rw [hlf] at hll
  have hm0 : (((lines.map ba).length : Nat) : Int) = (lines.length : Int) := by rw [List.length_map]
  intro ls
  induction ls with
  | nil =>
    intro pre m h1 h2 h3 h4 h5
    rw [List.append_nil] at h1
    subst h1
    have ht : (txt m).length ≤ 12000 := by rw [← h4, hlf]; exact hD
    have hb := bulk_txt m
    have hbm : bulk (.sl T_Entry) m = m.length + (m.map (bulk T_Entry)).sum := rfl
    obtain ⟨c, hc1, hc2, hc3⟩ := indexFault_all m (by omega) (bulk_paths (by omega))
    refine ⟨badR m.length, ?_, ?_, by show bulk (.sl T_Entry) [] ≤ _; exact Nat.zero_le _⟩
    · rw [spec_ParseIndex_L7.e, if_neg (by omega), if_neg (fun e => by cases e), hm0]
      show some ((5 : Int), ((lines.length : Nat) : Int), [], ()) = _
      rw [h3]; rfl
    · rw [impl_tail [] m (.inl rfl) (by simp) (by simp) h5 ht c hc2]
      rfl
  | cons x rest ih =>
    intro pre m h1 h2 h3 h4 h5
    have hfl : pre.flatten ++ (x ++ rest.flatten) = D := by rw [← hlf, h1]; simp
    have hfll := congrArg List.length hfl
    simp only [List.length_append] at hfll
    have ht : (txt m).length ≤ 12000 := by rw [← h4]; omega
    have hb := bulk_txt m
    have hbm : bulk (.sl T_Entry) m = m.length + (m.map (bulk T_Entry)).sum := rfl
    obtain ⟨c, hc1, hc2, hc3⟩ := indexFault_all m (by omega) (bulk_paths (by omega))
    have hlen : lines.length = pre.length + (rest.length + 1) := by rw [h1]; simp
    have hpi : pre.length < (lines.map ba).length := by rw [List.length_map]; omega
    have hnth : nth Ty.str (lines.map ba) pre.length = ba x := by
      rw [nth_at (t := .str) hpi]
      simp only [List.getElem_map]
      congr 1
      subst h1
      simp
    have k1 : ((pre.length : Nat) : Int) < (((lines.map ba).length : Nat) : Int) := by omega
    have k2 : 0 ≤ ((pre.length : Nat) : Int) ∧ ((pre.length : Nat) : Int) < (((lines.map ba).length : Nat) : Int) := by omega
    have kw : IntKind.i64.wrap ((((lines.map ba).length : Nat) : Int) - 1) = ((lines.length - 1 : Nat) : Int) := by rw [List.length_map, wrap_pred (by omega) (by omega)]
    have kn : ¬ false = true := fun e => by cases e
    have hfx : (x :: rest).flatten = x ++ rest.flatten := rfl
    have hls : (x :: rest).length ≤ 12000 := by simp only [List.length_cons]; omega
    have hlz : (x :: rest).flatten.length ≤ 12000 := by rw [hfx, List.length_append]; omega
    rcases List.eq_nil_or_concat x with hx0 | ⟨E, b, hx⟩
    · exact absurd hx0 (okLs_ne h2)
    rw [List.concat_eq_append] at hx
    have hEl : E.length + 1 = x.length := by rw [hx]; simp
    have hbadB : bulk (.sl T_Entry) (badR m.length).2.2.1 ≤ 12000 := Nat.zero_le _
    rw [spec_ParseIndex_L7.e, if_pos k1, if_neg kn, if_pos k2]
    simp only [Int.toNat_natCast, hnth, kw, wrap_succ (show pre.length < 4611686018427387904 by omega)]
    by_cases hb10 : b = 10
    · subst hb10
      have hul : spec_l6Unline.s (ba x) = some (ba E, true) := by
        have := unline_snoc E 10 (by omega)
        rw [if_pos rfl] at this
        rw [hx]; exact this
      obtain ⟨xs, q1, q2⟩ := spec_line E (by omega)
      obtain ⟨xi, p1, p2⟩ := impl_entry E (by omega)
      rw [hul, Option.bind_some, q1, Option.bind_some]
      cases hent : entE E with
      | some e =>
        have e1 := q2 e hent
        have e2 := p2 e hent
        subst e1
        obtain ⟨hge, hte⟩ := ent_back hent
        rw [hent] at p1
        have p1 : impl_entryOf.s (ba (E ++ [10])) = some (xi, true) := p1
        simp only [Option.isSome_some, if_true, fill1, List.length_append, List.length_cons, List.length_nil]
        rw [if_pos (by omega)]
        have rec_ := ih (pre ++ [x]) (m ++ [xs]) (by rw [h1]; simp) (okLs_tail h2) (by simp [h3]) (by
          rw [List.flatten_append, h4]
          show txt m ++ (x ++ []) = _
          unfold txt
          rw [List.map_append, List.flatten_append]
          show _ = _ ++ (entT xs ++ [])
          rw [hte, hx]) (fun e he => by
            rcases List.mem_append.1 he with he | he
            · exact h5 e he
            · rw [List.mem_singleton.1 he]; exact hge)
        obtain ⟨r, r1, r2, r3⟩ := rec_
        refine ⟨r, ?_, ?_, r3⟩
        · simp only [List.length_append, List.length_cons, List.length_nil] at r1
          exact r1
        · have n0 : nth Ty.str ((x :: rest).map ba) (Int.toNat (0 : Int)) = ba (E ++ [10]) := by rw [← hx]; rfl
          have c0 : (((x :: rest).map ba).length : Int) > 0 := by simp
          rw [impl_ParseIndex_L4.e, if_pos c0, if_pos ⟨by omega, c0⟩, n0, p1, Option.bind_some, if_pos rfl]
          simp only [fill1, List.length_append, List.length_cons, List.length_nil]
          rw [if_pos (by omega), if_pos (by simp; omega)]
          have hdrop : List.drop (Int.toNat (1 : Int)) (List.take (List.map ba (x :: rest)).length (List.map ba (x :: rest))) = rest.map ba := by
            rw [List.take_length]; rfl
          have hdrop' : List.drop (Int.toNat (1 : Int)) (List.take ((List.map ba rest).length + 1) (List.map ba (x :: rest))) = rest.map ba := hdrop
          simp only [List.length_append, List.length_cons, List.length_nil] at r2
          simp only [List.map_cons, List.length_cons] at hdrop' ⊢
          rw [hdrop', e2]
          exact r2
      | none =>
        rw [hent] at p1
        have p1 : impl_entryOf.s (ba (E ++ [10])) = some (xi, false) := p1
        have htail := impl_tail (x :: rest) m (.inr ⟨x, rest, xi, rfl, by rw [hx]; exact p1⟩) hls hlz h5 ht c hc2
        simp only [Option.isSome_none, if_neg kn, if_true]
        by_cases hr : rest = []
        · subst hr
          have hxf : ([x] : List (List UInt8)).flatten = x := by simp
          have hss : isSumL x = isSum E := by rw [hx]; exact isSumL_snoc E
          rw [hxf, hss] at htail
          rw [if_pos (by rw [hlen]; simp), spec_sum E (by omega), Option.bind_some]
          cases hsum : isSum E with
          | false =>
            rw [hsum, if_neg kn] at htail
            rw [if_neg kn]
            refine ⟨_, ?_, htail, hbadB⟩
            unfold badR
            rw [← h3]
          | true =>
            rw [hsum, if_pos rfl] at htail
            rw [if_pos rfl, spec_ParseIndex_L7.e, if_neg (by rw [hm0, hlen]; simp), if_pos rfl, hc1, Option.bind_some]
            refine ⟨_, ?_, htail, ?_⟩
            · unfold endR
              by_cases h0 : c = 0
              · rw [if_pos h0, if_pos h0, spec_text m (by omega) h5 (by omega), Option.bind_some]
                have hiff : ba (txt m ++ sumLn (txt m)) = ba D ↔ x = sumLn (txt m) := by
                  rw [ba_inj, ← hfl, h4]
                  simp only [List.flatten_nil, List.append_nil]
                  constructor
                  · intro e; exact (List.append_cancel_left e).symm
                  · intro e; rw [← e]
                by_cases he : x = sumLn (txt m)
                · rw [if_pos (hiff.2 he), decide_eq_true he, if_pos rfl]
                · rw [if_neg (fun e => he (hiff.1 e)), decide_eq_false he, if_neg kn]
              · rw [if_neg h0, if_neg h0]
            · unfold endR
              split
              · split
                · show bulk (.sl T_Entry) m ≤ _; omega
                · exact Nat.zero_le _
              · exact Nat.zero_le _
        · have hrl : 1 ≤ rest.length := List.length_pos_iff.2 hr
          have hne : ¬ ((pre.length : Nat) : Int) = ((lines.length - 1 : Nat) : Int) := by omega
          rw [if_neg hne]
          have hnos : ¬ isSumL (x :: rest).flatten = true := by
            intro hS
            have hno := (isSumL_lf hS).2
            apply hno
            rw [hfx, hx]
            have hrf : rest.flatten ≠ [] := by
              intro e
              have := okLs_len (okLs_tail h2)
              rw [e] at this
              simp at this
              exact hr this
            rw [List.dropLast_append_of_ne_nil hrf]
            simp
          rw [if_neg hnos] at htail
          refine ⟨_, ?_, htail, hbadB⟩
          unfold badR
          rw [← h3]
    · have hul : spec_l6Unline.s (ba x) = some (noS, false) := by
        have := unline_snoc E b (by omega)
        rw [if_neg hb10] at this
        rw [hx]; exact this
      obtain ⟨xs, q1, q2⟩ := spec_line [] (by simp)
      have q1 : spec_l10Line.s noS = some (xs, (entE []).isSome) := q1
      obtain ⟨xi, p1⟩ := impl_entry_no x (by omega) (by rw [hx]; simpa using hb10)
      have htail := impl_tail (x :: rest) m (.inr ⟨x, rest, xi, rfl, p1⟩) hls hlz h5 ht c hc2
      have hr : rest = [] := by
        cases rest with
        | nil => rfl
        | cons y r =>
          obtain ⟨E', hE'⟩ := h2.1
          rw [hx] at hE'
          have := congrArg List.getLast? hE'
          simp at this
          exact absurd this hb10
      subst hr
      have hnos : ¬ isSumL ([x] : List (List UInt8)).flatten = true := by
        intro hS
        have := (isSumL_lf hS).1
        rw [hfx, hx] at this
        simp at this
        exact hb10 this
      rw [if_neg hnos] at htail
      rw [hul, Option.bind_some, q1, Option.bind_some]
      simp only [if_neg kn]
      refine ⟨_, ?_, htail, hbadB⟩
      unfold badR
      rw [← h3]

theorem parse_all (s : ByteArray) : ∃ r : T_EntriesResult.den, spec_ParseIndex.s s = some r ∧ impl_ParseIndex.s s = some r ∧ bulk (.sl T_Entry) r.2.2.1 ≤ 12000 := by
  rw [spec_ParseIndex.e, impl_ParseIndex.e]
  have hsz : s.size = s.data.toList.length := Go.Lib.size_eq s
  by_cases h : (s.size : Int) > 12000
  · rw [if_pos h, if_pos h]; exact ⟨_, rfl, rfl, Nat.zero_le _⟩
  · have e1 : spec_l1Split.s s = some (linesL s) := lim_says (says_spec_split s (by omega))
    have e2 : impl_linesOf.s s = some (linesL s) := lim_says (says_linesOf s (by omega))
    rw [if_neg h, if_neg h, e1, e2, Option.bind_some, Option.bind_some]
    have hD : s.data.toList.length ≤ 12000 := by omega
    have := parse_loop s.data.toList hD (lns [] s.data.toList) (lns_ok _ _) (by rw [lns_flat]; rfl) (lns [] s.data.toList) [] [] rfl (lns_ok _ _) rfl rfl (fun e he => by cases he)
    rw [ba_self] at this
    exact this
end Go.Proofs.YthooeghlplhlnaaGreatDoor.Ev
