/- The law FnExactSettleClashes. -/
import Derived.Test.YtmojilihllhadaaGreatDoorPfSettle2
import Derived.Test.YtmojilihllhadaaGreatDoorPfSizes
import Derived.Test.YtmojilihllhadaaGreatDoorPfMarkE
import Derived.Test.YtmojilihllhadaaGreatDoorPfMarkO
set_option linter.unusedVariables false
set_option linter.unusedSimpArgs false
namespace Go.Proofs.YtmojilihllhadaaGreatDoor.Ev
open Go

theorem bulk_le {t : Ty} {l : List t.den} {B : Nat} (h : ∀ x ∈ l, bulk t x ≤ B) : bulk (.sl t) l ≤ l.length * (B + 1) := by
  show l.length + (l.map (bulk t)).sum ≤ l.length * (B + 1)
  induction l with
  | nil => simp
  | cons a r ih =>
    have h1 := h a (by simp)
    have h2 := ih fun x hx => h x (by simp [hx])
    simp only [List.length_cons, List.map_cons, List.sum_cons, Nat.succ_mul]
    omega
/-- an answer that is small enough to be marked and compared -/
structure Small (r : T_BaseResult.den) : Prop where
  st : r.2.1.length ≤ 1048576
  fs : r.2.2.1.length ≤ 1048576
  bulk : bulk T_BaseResult r ≤ 9223372036854775806
theorem idB_size (k : Int) (d : ByteArray) : (idB k d).size = 5 := by unfold idB; rw [ba_size]; rfl
theorem small_bad (c : Int) : Small (c, [], [], ()) := ⟨by simp, by simp, by show 0 + (0 + (0 + 0)) ≤ _; omega⟩
theorem small_ok {s : List T_Object.den} (hs : OkStore s) {F : List T_File.den} (hF : F.length ≤ 1048576) (hp : ∀ x ∈ F, (x.1 : ByteArray).size ≤ 1048576 ∧ (x.2.2.1 : ByteArray).size ≤ 1048576) : Small ((0 : Int), s, F, ()) := by
  have hl := hs.len
  refine ⟨by show s.length ≤ _; omega, hF, ?_⟩
  have h1 : Ev.bulk (.sl T_Object) s ≤ s.length * (3000 + 1) := bulk_le fun o ho => by
    obtain ⟨h1, h2⟩ := hs.obj o ho
    have h3 := tf_size (okObj h1).2.2
    have h4 : (o.1 : ByteArray).size = 5 := by rw [← h2]; exact idB_size _ _
    show (o.1 : ByteArray).size + (0 + ((o.2.2.1 : ByteArray).size + 0)) ≤ 3000
    omega
  have h2 : Ev.bulk (.sl T_File) F ≤ F.length * (3000000 + 1) := bulk_le fun o ho => by
    obtain ⟨h1, h2⟩ := hp o ho
    show (o.1 : ByteArray).size + (0 + ((o.2.2.1 : ByteArray).size + 0)) ≤ 3000000
    omega
  show 0 + (Ev.bulk (.sl T_Object) s + (Ev.bulk (.sl T_File) F + 0)) ≤ _
  have h3 : s.length * (3000 + 1) ≤ 200 * 3001 := Nat.mul_le_mul_right _ hl
  have h4 : F.length * (3000000 + 1) ≤ 1048576 * 3000001 := Nat.mul_le_mul_right _ hF
  omega
theorem stp_id (ws : List T_Work.den) (s : List T_Object.den) (p : ByteArray) : (stp ws s p).2.2.size ≤ 1048576 := by
  have h0 : noS.size = 0 := rfl
  unfold stp
  split
  · split
    · show (putO s 1 (wt ws p).2.1).2.1.size ≤ _
      unfold putO
      split
      · split
        · rw [idB_size]; omega
        · rw [h0]; omega
      · split
        · rw [h0]; omega
        · rw [idB_size]; omega
    · rw [h0]; omega
  · rw [h0]; omega
theorem run_both (ws : List T_Work.den) : ∀ (P : List (ByteArray × Int)) (s : List T_Object.den) (F : List T_File.den), OkStore s → (F.map (·.1) ++ P.map (·.1)).Nodup → F.length + P.length ≤ 1048576 →
    (∀ x ∈ F, (x.1 : ByteArray).size ≤ 1048576 ∧ (x.2.2.1 : ByteArray).size ≤ 1048576) → (∀ x ∈ P, x.1.size ≤ 1048576) →
    ∃ r, runS ws appF finS P s F = some r ∧ runS ws insF finI P s (srtF F) = some r ∧ Small r
  | [], s, F, hs, hn, hl, hF, hP => by
    have hn : (F.map (·.1)).Nodup := by simpa using hn
    have hl : F.length ≤ 1048576 := by simpa using hl
    have hlen := srtF_len F
    obtain ⟨c, c1, c2⟩ := filesFault_all (srtF F) (by omega) fun e he => (hF e (srtF_mem.1 he)).1
    rw [runS, runS]
    unfold finS finI
    rw [spec_sort F hl hn, Option.bind_some, c1, c2, Option.bind_some]
    by_cases h : c = 0
    · rw [if_pos h]
      exact ⟨_, rfl, rfl, small_ok hs (by omega) fun x hx => hF x (srtF_mem.1 hx)⟩
    · rw [if_neg h]
      exact ⟨_, rfl, rfl, small_bad c⟩
  | x :: P, s, F, hs, hn, hl, hF, hP => by
    rw [runS, runS]
    by_cases h : (stp ws s x.1).1 = 0
    · rw [if_pos h, if_pos h, ← srtF_add]
      refine run_both ws P _ _ (stp_ok hs h) ?_ ?_ ?_ fun y hy => hP y (by simp [hy])
      · unfold appF
        simpa using hn
      · unfold appF
        simp at hl ⊢
        omega
      · intro y hy
        rcases List.mem_append.1 hy with hy | hy
        · exact hF y hy
        · rw [List.mem_singleton] at hy
          subst hy
          exact ⟨hP x (by simp), stp_id ws s x.1⟩
    · rw [if_neg h, if_neg h]
      exact ⟨_, rfl, rfl, small_bad _⟩

/-! #### the files of stage 0 -/
theorem stage_mem {l : List T_Entry.den} {k : Int} {f : T_File.den} : f ∈ stageL l k ↔ ∃ e ∈ l, stg e = k ∧ f = toF e := by
  unfold stageL
  rw [List.mem_flatMap]
  constructor
  · rintro ⟨e, he, hf⟩
    by_cases h : stg e = k
    · rw [decide_eq_true h, cond_true, List.mem_singleton] at hf
      exact ⟨e, he, h, hf⟩
    · rw [decide_eq_false h] at hf
      cases hf
  · rintro ⟨e, he, h, rfl⟩
    exact ⟨e, he, by rw [decide_eq_true h]; simp⟩
theorem stage_srt {l : List T_Entry.den} (ho : OkIx l l.length) : SrtF (stageL l 0) := by
  refine srt_pw.2 ?_
  have hp : l.Pairwise fun x y => stg x = 0 → stg y = 0 → cmp x.1 y.1 < 0 := by
    rw [List.pairwise_iff_getElem]
    intro i j hi hj hij h1 h2
    obtain ⟨k, rfl⟩ : ∃ k, j = i + 1 + k := ⟨j - (i + 1), by omega⟩
    rcases ix_lt ho k i hj with h | ⟨_, h⟩
    · exact h
    · omega
  clear ho
  induction l with
  | nil => exact List.Pairwise.nil
  | cons a r ih =>
    obtain ⟨h1, h2⟩ := List.pairwise_cons.1 hp
    have ih := ih h2
    show (stageL (a :: r) 0).Pairwise _
    unfold stageL at ih ⊢
    rw [List.flatMap_cons]
    by_cases h : stg a = 0
    · rw [decide_eq_true h, cond_true, List.singleton_append, List.pairwise_cons]
      refine ⟨fun f hf => ?_, ih⟩
      obtain ⟨e, he, h3, rfl⟩ := (stage_mem (l := r) (k := 0)).1 hf
      exact h1 e he h h3
    · rw [decide_eq_false h, cond_false, List.nil_append]
      exact ih
theorem impl_stage (l : List T_Entry.den) (hl : l.length ≤ 1048576) (k : Int) : impl_stageFiles.s l k = some (stageL l k) := by
  rw [impl_stageFiles.e]
  have := row_flat0 (t := T_Entry) (L := fun i m => impl_stageFiles_L3.s k m.length l (l.length : Int) i m) (l := l) (g := fun e => bif decide (stg e = k) then [toF e] else []) (fun x => one_len) (fun i hi m hm => by
    show impl_stageFiles_L3.s k _ _ _ _ _ = impl_stageFiles_L3.s k _ _ _ _ _
    conv => lhs; rw [impl_stageFiles_L3.e]
    simp (disch := omega) only [if_pos, Int.toNat_natCast, nth_at hi, wrap_succ, fill1, List.length_append, List.length_cons, List.length_nil]
    by_cases h : stg l[i] = k
    · rw [if_pos h, decide_eq_true h]; rfl
    · rw [if_neg h, decide_eq_false h]
      simp)
  have h0 : impl_stageFiles_L3.s k 0 l (l.length : Int) 0 [] = _ := this
  rw [h0]
  show impl_stageFiles_L3.s k _ _ _ _ _ = _
  rw [impl_stageFiles_L3.e, if_neg (by omega)]
  rfl
theorem settle_all (s : List T_Object.den) (hs : s.length ≤ 1048576) (l : List T_Entry.den) (hl : l.length ≤ 1048576) (hp : ∀ e ∈ l, (e.1 : ByteArray).size ≤ 1048576) (hid : ∀ e ∈ l, (e.2.2.2.1 : ByteArray).size ≤ 1048576) (ws : List T_Work.den) (hws : ws.length ≤ 1048576) :
    ∃ r, spec_SettleClashes.s s l ws = some r ∧ impl_SettleClashes.s s l ws = some r ∧ Small r := by
  obtain ⟨h1, h2⟩ := storeFault_all s hs
  obtain ⟨c, c1, c2, c3⟩ := indexFault_all l hl hp
  rw [spec_SettleClashes.e, impl_SettleClashes.e, h1, h2, c1, c2]
  simp only [Option.bind_some, firstCode2_s]
  by_cases h0 : storeFault s = 0
  rotate_left
  · rw [if_neg h0, if_neg h0, if_neg h0, spec_l12Bad.e]
    exact ⟨_, rfl, rfl, small_bad _⟩
  rw [if_pos h0, if_pos h0]
  by_cases hc : c = 0
  rotate_left
  · rw [if_neg hc, if_neg hc, spec_l12Bad.e]
    exact ⟨_, rfl, rfl, small_bad _⟩
  rw [if_pos hc, if_pos hc, spec_copy5 s hs, Option.bind_some]
  obtain ⟨ho, hl2⟩ := c3 hc
  have hos := store_ok h0 hs
  have hst := stage_srt ho
  have hlen := stageL_len l 0
  have hcl := clF_len l []
  have hnd : ((stageL l 0).map (·.1) ++ (clF l []).map (·.1)).Nodup := by
    rw [List.nodup_append]
    refine ⟨?_, clF_nodup l [], ?_⟩
    · rw [List.nodup_iff_pairwise_ne, List.pairwise_map]
      refine (srt_pw.1 hst).imp fun {a b} hab e => ?_
      have hab : cmp a.1 b.1 < 0 := hab
      rw [e, cmp_self] at hab
      omega
    · intro p hp1 q hq1 he
      subst he
      obtain ⟨f, hf, hf2⟩ := List.mem_map.1 hp1
      obtain ⟨x, hx, hx2⟩ := List.mem_map.1 hq1
      obtain ⟨e, he, he2, rfl⟩ := stage_mem.1 hf
      obtain ⟨_, e', he', he3, he4⟩ := clF_mem l [] x hx
      exact he4 (st_zero ho he he' (hf2.trans (hx2.symm.trans he3.symm)) he2)
  obtain ⟨r, r1, r2, r3⟩ := run_both ws (clF l []) s (stageL l 0) hos hnd (by omega) (fun x hx => by
    obtain ⟨e, he, _, rfl⟩ := stage_mem.1 hx
    exact ⟨hp e he, hid e he⟩) (fun x hx => by
    obtain ⟨_, e, he, he2, _⟩ := clF_mem l [] x hx
    rw [← he2]; exact hp e he)
  refine ⟨r, ?_, ?_, r3⟩
  · rw [spec_l12Settle.e, spec_stage l hl, Option.bind_some, spec_clashes l hl ho, Option.bind_some]
    have := spec_settle_loop l hl ho ws hws (clF l []).length 0 s (stageL l 0) (by omega) hos (by omega)
    rw [List.drop_zero, r1] at this
    have this : spec_l12Settle_L4.s l ws ((clF l []).map (·.1)) 0 0 0 s (stageL l 0).length (stageL l 0) = some r := this
    rw [this]; rfl
  · rw [impl_settle.e, impl_stage l hl, Option.bind_some]
    have := impl_settle_v0 l (by omega) ho ws hws l.length 0 s (stageL l 0) [] [] (by omega) hos (by omega) (fun p => by simp [mGet]) hst (fun x hx => by
      obtain ⟨e, he, he2, rfl⟩ := stage_mem.1 hx
      exact .inr ⟨e, he, he2, rfl⟩)
    rw [srtF_id hst] at r2
    rw [List.drop_zero, r2] at this
    have this : impl_settle_L3.s s ws (stageL l 0).length l (l.length : Int) 0 0 (stageL l 0) [] = some r := this
    rw [this]; rfl
theorem good_id {l : List T_Entry.den} (h : bulk (.sl T_Entry) l ≤ 1048576) : ∀ e ∈ l, (e.2.2.2.1 : ByteArray).size ≤ 1048576 := by
  intro e he
  have h1 := bulk_mem (t := T_Entry) he
  have h2 : bulk (.sl T_Entry) l = l.length + (l.map (bulk T_Entry)).sum := rfl
  have h3 : bulk T_Entry e = (e.1 : ByteArray).size + (0 + (0 + ((e.2.2.2.1 : ByteArray).size + 0))) := rfl
  omega
theorem settleClashes_law (x : List T_Object.den) (y : List T_Entry.den) (z : List T_Work.den) (g : good (.sl T_Object) x) (g2 : good (.sl T_Entry) y) (g3 : good (.sl T_Work) z) : Says (fun n => laws_FnExactSettleClashes n x y z) true := by
  refine says_lim ?_
  show laws_FnExactSettleClashes.s x y z = some true
  have e1 : laws_szObjectS.s x 1048576 = some (szr (bulk (.sl T_Object) x) 1048576) := lim_says (says_laws_szObjectS x 1048576 g (by omega) (by omega))
  rw [laws_FnExactSettleClashes.e, e1, Option.bind_some]
  by_cases h : szr (bulk (.sl T_Object) x) 1048576 < 0
  · rw [if_pos h]
  have hb := szr_pos h
  have e2 : laws_szEntryS.s y (szr (bulk (.sl T_Object) x) 1048576) = some (szr (bulk (.sl T_Entry) y) (szr (bulk (.sl T_Object) x) 1048576)) := lim_says (says_laws_szEntryS y _ g2 (by omega) (by unfold szr; split <;> omega))
  rw [if_neg h, e2, Option.bind_some]
  generalize hB : szr (bulk (.sl T_Object) x) 1048576 = B at h
  have hBle : B ≤ 1048576 := by rw [← hB]; unfold szr; split <;> omega
  by_cases h' : szr (bulk (.sl T_Entry) y) B < 0
  · rw [if_pos h']
  have hb2 := szr_pos h'
  have hB2 : szr (bulk (.sl T_Entry) y) B ≤ 1048576 := by unfold szr; split <;> omega
  have e3 : laws_szWorkS.s z (szr (bulk (.sl T_Entry) y) B) = some (szr (bulk (.sl T_Work) z) (szr (bulk (.sl T_Entry) y) B)) := lim_says (says_laws_szWorkS z _ g3 (by omega) (by omega))
  rw [if_neg h', e3, Option.bind_some]
  by_cases h'' : szr (bulk (.sl T_Work) z) (szr (bulk (.sl T_Entry) y) B) < 0
  · rw [if_pos h'']
  have hb3 := szr_pos h''
  have t1 : laws_toObjectS.s x = some x := lim_says (says_laws_toObjectS x (by omega))
  have t2 : laws_toEntryS.s y = some y := lim_says (says_laws_toEntryS y (by omega))
  have t3 : laws_toWorkS.s z = some z := lim_says (says_laws_toWorkS z (by omega))
  have q1 : laws_eqObjectS.s x x = some true := lim_says (says_laws_eqObjectS x (by omega))
  have q2 : laws_eqEntryS.s y y = some true := lim_says (says_laws_eqEntryS y (by omega))
  have q3 : laws_eqWorkS.s z z = some true := lim_says (says_laws_eqWorkS z (by omega))
  have hx : bulk (.sl T_Object) x = x.length + (x.map (bulk T_Object)).sum := rfl
  have hy : bulk (.sl T_Entry) y = y.length + (y.map (bulk T_Entry)).sum := rfl
  have hz : bulk (.sl T_Work) z = z.length + (z.map (bulk T_Work)).sum := rfl
  obtain ⟨r, r1, r2, r3⟩ := settle_all x (by omega) y (by omega) (good_size (by omega)) (good_id (by omega)) z (by omega)
  have q4 : laws_eqBaseResult.s r r = some true := lim_says (says_laws_eqBaseResult r r3.bulk)
  have hr1 := r3.st
  have hr2 := r3.fs
  have m1 : laws_markObjectS.s x 1 = some (((1 + 3 * x.length : Nat) : Int), marks (t := T_Object) 3 mkObject 1 x.length) := lim_says (markObjectS_says x 1 (by omega) (by omega))
  have m2 : laws_markEntryS.s y ((1 + 3 * x.length : Nat) : Int) = some (((1 + 3 * x.length + 4 * y.length : Nat) : Int), marks (t := T_Entry) 4 mkEntry (1 + 3 * x.length) y.length) := lim_says (markEntryS_says y (1 + 3 * x.length) (by omega) (by omega))
  have m3 : laws_markWorkS.s z ((1 + 3 * x.length + 4 * y.length : Nat) : Int) = some (((1 + 3 * x.length + 4 * y.length + 2 * z.length : Nat) : Int), marks (t := T_Work) 2 mkWork (1 + 3 * x.length + 4 * y.length) z.length) := lim_says (markWorkS_says z (1 + 3 * x.length + 4 * y.length) (by omega) (by omega))
  have k1 : laws_markObjectS.s r.2.1 1 = some (((1 + 3 * r.2.1.length : Nat) : Int), marks (t := T_Object) 3 mkObject 1 r.2.1.length) := lim_says (markObjectS_says r.2.1 1 hr1 (by omega))
  have k2 : laws_markFileS.s r.2.2.1 ((1 + 3 * r.2.1.length : Nat) : Int) = some (((1 + 3 * r.2.1.length + 3 * r.2.2.1.length : Nat) : Int), marks (t := T_Object) 3 mkObject (1 + 3 * r.2.1.length) r.2.2.1.length) := lim_says (markFileS_says r.2.2.1 (1 + 3 * r.2.1.length) hr2 (by omega))
  have k3 : laws_heldObjectS.s (marks (t := T_Object) 3 mkObject 1 r.2.1.length) 1 = some ((1 + 3 * r.2.1.length : Nat) : Int) := lim_says (heldObjectS_says 1 r.2.1.length hr1 (by omega))
  have k4 : laws_heldFileS.s (marks (t := T_Object) 3 mkObject (1 + 3 * r.2.1.length) r.2.2.1.length) ((1 + 3 * r.2.1.length : Nat) : Int) = some ((1 + 3 * r.2.1.length + 3 * r.2.2.1.length : Nat) : Int) := lim_says (heldFileS_says (1 + 3 * r.2.1.length) r.2.2.1.length hr2 (by omega))
  have k5 : laws_markBaseResult.s r.2.1 r.2.2.1 r.1 1 = some (((1 + 3 * r.2.1.length + 3 * r.2.2.1.length : Nat) : Int), marks (t := T_Object) 3 mkObject 1 r.2.1.length, marks (t := T_Object) 3 mkObject (1 + 3 * r.2.1.length) r.2.2.1.length) := by
    rw [laws_markBaseResult.e, k1, Option.bind_some]
    show (laws_markFileS.s r.2.2.1 ((1 + 3 * r.2.1.length : Nat) : Int)).bind _ = _
    rw [k2, Option.bind_some]
  have k6 : laws_heldBaseResult.s (r.1, marks (t := T_Object) 3 mkObject 1 r.2.1.length, marks (t := T_Object) 3 mkObject (1 + 3 * r.2.1.length) r.2.2.1.length, ()) 1 = some ((1 + 3 * r.2.1.length + 3 * r.2.2.1.length : Nat) : Int) := by
    rw [laws_heldBaseResult.e]
    show (laws_heldObjectS.s (marks (t := T_Object) 3 mkObject 1 r.2.1.length) 1).bind _ = _
    rw [k3, Option.bind_some, if_neg (by omega)]
    show (laws_heldFileS.s (marks (t := T_Object) 3 mkObject (1 + 3 * r.2.1.length) r.2.2.1.length) ((1 + 3 * r.2.1.length : Nat) : Int)).bind _ = _
    rw [k4, Option.bind_some, if_neg (by omega)]
  have n1 : ¬ ((1 + 3 * x.length + 4 * y.length + 2 * z.length : Nat) : Int) < 0 := by omega
  have n2 : ¬ ((1 + 3 * r.2.1.length + 3 * r.2.2.1.length : Nat) : Int) < 0 := by omega
  rw [if_neg h'']
  simp only [t1, t2, t3, q1, q2, q3, q4, r1, r2, m1, m2, m3, k5, k6, if_neg n1, if_neg n2, Option.bind_some, if_true]
end Go.Proofs.YtmojilihllhadaaGreatDoor.Ev
