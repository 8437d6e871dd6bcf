/- Clashes settled, the loops: both ways make the same. -/
import Derived.Test.YtmojilihllhadaaGreatDoorPfSettle
set_option linter.unusedVariables false
set_option linter.unusedSimpArgs false
namespace Go.Proofs.YtmojilihllhadaaGreatDoor.Ev
open Go

/-- one clash settled: a code, the store, the name -/
noncomputable def stp (ws : List T_Work.den) (s : List T_Object.den) (p : ByteArray) : Int × List T_Object.den × ByteArray :=
  if (wt ws p).1 = 0 then if tf (wt ws p).2.1 = 0 then ((putO s 1 (wt ws p).2.1).2.2, (putO s 1 (wt ws p).2.1).1, (putO s 1 (wt ws p).2.1).2.1) else (tf (wt ws p).2.1, [], noS) else ((wt ws p).1, [], noS)
noncomputable def runS (ws : List T_Work.den) (add : List T_File.den → T_File.den → List T_File.den) (fin : List T_Object.den → List T_File.den → Option T_BaseResult.den) :
    List (ByteArray × Int) → List T_Object.den → List T_File.den → Option T_BaseResult.den
  | [], s, F => fin s F
  | x :: r, s, F => if (stp ws s x.1).1 = 0 then runS ws add fin r (stp ws s x.1).2.1 (add F (x.1, x.2, (stp ws s x.1).2.2, ())) else some ((stp ws s x.1).1, [], [], ())
theorem stp_ok {ws : List T_Work.den} {s : List T_Object.den} (ho : OkStore s) {p : ByteArray} (h : (stp ws s p).1 = 0) : OkStore (stp ws s p).2.1 := by
  unfold stp at h ⊢
  split
  · rename_i h1
    rw [if_pos h1] at h
    split
    · rename_i h2
      rw [if_pos h2] at h
      exact putO_ok ho (by omega) (by omega) h2 h
    · rename_i h2
      rw [if_neg h2] at h
      exact absurd h h2
  · rename_i h1
    rw [if_neg h1] at h
    exact absurd h h1
noncomputable def finS (s : List T_Object.den) (F : List T_File.den) : Option T_BaseResult.den := (spec_l7Sort.s F).bind fun r8 => (spec_FilesFault.s r8).bind fun r9 => if r9 = 0 then some ((0 : Int), s, r8, ()) else some (r9, [], [], ())
noncomputable def finI (s : List T_Object.den) (F : List T_File.den) : Option T_BaseResult.den := (impl_FilesFault.s F).bind fun r6 => if r6 = 0 then some ((0 : Int), s, F, ()) else some (r6, [], [], ())
def appF (F : List T_File.den) (f : T_File.den) : List T_File.den := F ++ [f]

/-! #### the reference -/
theorem spec_find_mode (l : List T_Entry.den) (hl : l.length ≤ 1048576) (ws : List T_Work.den) (C : List ByteArray) (hC : C.length ≤ 1048576) (i : Nat) (hi : i < C.length) (id : ByteArray) (s : List T_Object.den) (F : List T_File.den) (hF : F.length ≤ 2097152) : ∀ (q k : Nat), k + q = l.length →
    spec_l12Settle_L17.s l ws C (i : Int) id (k : Int) 0 0 s F.length F = (((l.drop k).find? fun e => decide (e.1 = C[i])).elim (spec_l12Settle_L4.s l ws C ((i + 1 : Nat) : Int) 0 0 s F.length F)
      fun e => spec_l12Settle_L4.s l ws C ((i + 1 : Nat) : Int) 0 0 s (appF F (C[i], e.2.2.1, id, ())).length (appF F (C[i], e.2.2.1, id, ())))
  | 0, k, h => by
    rw [spec_l12Settle_L17.e, if_neg (by omega), List.drop_eq_nil_of_le (by omega), wrap_succ (by omega)]; rfl
  | q + 1, k, h => by
    have hk : k < l.length := by omega
    have hil : i < C.length := hi
    rw [spec_l12Settle_L17.e, List.drop_eq_getElem_cons hk, List.find?_cons]
    simp (disch := first | omega | (simp; omega)) only [if_pos, Int.toNat_natCast, nth_at (t := T_Entry) hk, nth_at (t := .str) hi, wrap_succ, fill1]
    by_cases he : (l[k] : T_Entry.den).1 = C[i]
    · rw [if_pos he, decide_eq_true he]
      rfl
    · rw [if_neg he, decide_eq_false he]
      exact spec_find_mode l hl ws C hC i hi id s F hF q (k + 1) (by omega)
theorem spec_settle_loop (l : List T_Entry.den) (hl : l.length ≤ 1048576) (ho : OkIx l l.length) (ws : List T_Work.den) (hws : ws.length ≤ 1048576) : ∀ (q i : Nat) (s : List T_Object.den) (F : List T_File.den), i + q = (clF l []).length → OkStore s → F.length ≤ l.length + i →
    spec_l12Settle_L4.s l ws ((clF l []).map (·.1)) (i : Int) 0 0 s F.length F = runS ws appF finS ((clF l []).drop i) s F
  | 0, i, s, F, h, hs, hF => by
    have hlen : ((clF l []).map (·.1)).length = (clF l []).length := by simp
    rw [spec_l12Settle_L4.e, if_neg (by rw [hlen]; omega), List.drop_eq_nil_of_le (by omega)]
    simp only [spec_l12Bad.e, Option.bind_some]
    rfl
  | q + 1, i, s, F, h, hs, hF => by
    have hlen : ((clF l []).map (·.1)).length = (clF l []).length := by simp
    have hcl := clF_len l []
    have hi : i < (clF l []).length := by omega
    have hiC : i < ((clF l []).map (·.1)).length := by omega
    have hx : ((clF l []).map (·.1))[i] = (clF l [])[i].1 := by simp
    have hmem := List.getElem_mem hi
    rw [spec_l12Settle_L4.e, if_pos (by omega), if_pos (by omega), Int.toNat_natCast, nth_at (t := .str) hiC, hx, List.drop_eq_getElem_cons hi]
    generalize hX : (clF l [])[i] = X at hx hmem
    rw [spec_wt ws hws, Option.bind_some]
    rw [runS]
    by_cases h1 : (wt ws X.1).1 = 0
    rotate_left
    · have e : (stp ws s X.1).1 = (wt ws X.1).1 := by unfold stp; rw [if_neg h1]
      rw [if_neg h1, e, if_neg h1, spec_l12Bad.e]; rfl
    rw [if_pos h1, spec_tf, Option.bind_some]
    by_cases h2 : tf (wt ws X.1).2.1 = 0
    rotate_left
    · have e : (stp ws s X.1).1 = tf (wt ws X.1).2.1 := by unfold stp; rw [if_pos h1, if_neg h2]
      rw [if_neg h2, e, if_neg h2, spec_l12Bad.e]; rfl
    have hsz := tf_size h2
    have e1 : stp ws s X.1 = ((putO s 1 (wt ws X.1).2.1).2.2, (putO s 1 (wt ws X.1).2.1).1, (putO s 1 (wt ws X.1).2.1).2.1) := by unfold stp; rw [if_pos h1, if_pos h2]
    rw [if_pos h2, spec_putO hs 1 _ (by omega) (by omega) (by omega), Option.bind_some, e1]
    by_cases h3 : (putO s 1 (wt ws X.1).2.1).2.2 = 0
    rotate_left
    · rw [if_neg h3, if_neg h3, spec_l12Bad.e]; rfl
    rw [if_pos h3, if_pos h3]
    have hs' := putO_ok hs (by omega) (by omega) h2 h3
    obtain ⟨_, e, he, he1, _⟩ := clF_mem l [] X hmem
    have hmd := clF_md (ix_pair ho) l [] [] rfl (by simp) X hmem
    have hm := spec_find_mode l hl ws ((clF l []).map (·.1)) (by omega) i hiC (putO s 1 (wt ws X.1).2.1).2.1 (putO s 1 (wt ws X.1).2.1).1 F (by omega) l.length 0 (by omega)
    rw [List.drop_zero] at hm
    rw [hx] at hm
    cases hf : l.find? (fun e => decide (e.1 = X.1)) with
    | none =>
      exfalso
      rw [List.find?_eq_none] at hf
      exact hf e he (decide_eq_true he1)
    | some e' =>
      rw [hf] at hm
      unfold mdF at hmd
      rw [hf] at hmd
      have hmd : X.2 = e'.2.2.1 := hmd
      have hm : spec_l12Settle_L17.s l ws ((clF l []).map (·.1)) (i : Int) (putO s 1 (wt ws X.1).2.1).2.1 0 0 0 (putO s 1 (wt ws X.1).2.1).1 F.length F = spec_l12Settle_L4.s l ws ((clF l []).map (·.1)) ((i + 1 : Nat) : Int) 0 0 (putO s 1 (wt ws X.1).2.1).1 (appF F (X.1, e'.2.2.1, (putO s 1 (wt ws X.1).2.1).2.1, ())).length (appF F (X.1, e'.2.2.1, (putO s 1 (wt ws X.1).2.1).2.1, ())) := hm
      rw [hm, hmd]
      exact spec_settle_loop l hl ho ws hws q (i + 1) _ _ (by omega) hs' (by unfold appF; simp; omega)

/-! #### the program -/
def MapOk (m : List (ByteArray × Bool)) (S : List ByteArray) : Prop := ∀ p, mGet m p = true ↔ p ∈ S
theorem ba_beqi (a b : ByteArray) : (a.toList == b.toList) = true ↔ a = b := by
  rw [beq_iff_eq]
  constructor
  · intro h
    rw [Go.Lib.toList_data, Go.Lib.toList_data] at h
    exact ba_ext h
  · rintro rfl; rfl
theorem mGet_mPut : ∀ (m : List (ByteArray × Bool)) (p q : ByteArray), mGet (mPut m p true) q = true ↔ mGet m q = true ∨ q = p
  | [], p, q => by
    simp only [mPut, mGet]
    cases hb : (q.toList == p.toList) with
    | true => simp [(ba_beqi q p).1 hb]
    | false =>
      have : ¬ q = p := fun e => by rw [(ba_beqi q p).2 e] at hb; cases hb
      simp [this]
  | x :: r, p, q => by
    have ih := mGet_mPut r p q
    simp only [mPut]
    cases hb : (p.toList == x.1.toList) with
    | true =>
      have hp := (ba_beqi p x.1).1 hb
      simp only [cond_true, mGet]
      cases hq : (q.toList == p.toList) with
      | true => simp [(ba_beqi q p).1 hq]
      | false =>
        have hne : ¬ q = p := fun e => by rw [(ba_beqi q p).2 e] at hq; cases hq
        rw [← hp, hq]
        simp [hne]
    | false =>
      simp only [cond_false, mGet]
      cases hq : (q.toList == x.1.toList) with
      | true =>
        have hqx := (ba_beqi q x.1).1 hq
        have hne : ¬ q = p := fun e => by rw [← e, hq] at hb; cases hb
        simp [hne]
      | false => simpa using ih
theorem MapOk.put {m : List (ByteArray × Bool)} {S : List ByteArray} (h : MapOk m S) (p : ByteArray) : MapOk (mPut m p true) (S ++ [p]) := fun q => by
  rw [mGet_mPut, h q]; simp
theorem st_zero {l : List T_Entry.den} (ho : OkIx l l.length) {a e : T_Entry.den} (ha : a ∈ l) (he : e ∈ l) (h : a.1 = e.1) (h0 : stg a = 0) : stg e = 0 := by
  obtain ⟨i, hi, rfl⟩ := List.getElem_of_mem ha
  obtain ⟨j, hj, rfl⟩ := List.getElem_of_mem he
  have hp := ix_pair ho
  rw [List.pairwise_iff_getElem] at hp
  rcases Nat.lt_trichotomy i j with hlt | rfl | hgt
  · exact absurd h0 (hp i j hi hj hlt h).2
  · exact h0
  · have := (hp j i hj hi hgt h.symm).1
    have := (ho.st j hj hj).1
    omega
theorem fz_mode {p id : ByteArray} {k : Int} (h : isM k = true) : ¬ zeroF (p, k, id, ()) := by
  rintro ⟨_, h2, _⟩
  have h2 : k = 0 := h2
  rw [h2] at h
  cases h
theorem impl_settle_v1 (l : List T_Entry.den) (hl : l.length ≤ 500000) (ho : OkIx l l.length) (ws : List T_Work.den) (hws : ws.length ≤ 1048576) : ∀ (q i : Nat) (s : List T_Object.den) (F : List T_File.den) (m : List (ByteArray × Bool)) (S : List ByteArray), i + q = l.length → OkStore s → F.length ≤ l.length + i → MapOk m S → SrtF F →
    (∀ x ∈ F, x.1 ∈ S ∨ ∃ e ∈ l, stg e = 0 ∧ e.1 = x.1) → impl_settle_L3v1.s s.length ws F.length l (l.length : Int) (i : Int) s 0 F m = runS ws insF finI (clF (l.drop i) S) s F
  | 0, i, s, F, m, S, h, hs, hF, hm, hF2, hF3 => by
    rw [impl_settle_L3v1.e, if_neg (by omega), List.drop_eq_nil_of_le (by omega)]
    simp only [clone_o s (by have := hs.len; omega), Option.bind_some]
    rfl
  | q + 1, i, s, F, m, S, h, hs, hF, hm, hF2, hF3 => by
    have hi : i < l.length := by omega
    have hmemi := List.getElem_mem hi
    have hmd := (ho.md i hi hi).2.1
    rw [impl_settle_L3v1.e, if_pos (by omega), if_pos (by omega), Int.toNat_natCast, nth_at (t := T_Entry) hi, List.drop_eq_getElem_cons hi, wrap_succ (by omega), clF]
    generalize hX : l[i] = X at hmemi hmd
    by_cases h0 : stg X = 0
    · rw [if_pos h0, if_pos (.inl h0)]
      exact impl_settle_v1 l hl ho ws hws q (i + 1) s F m S (by omega) hs (by omega) hm hF2 hF3
    rw [if_neg h0]
    by_cases h00 : X.1 ∈ S
    · rw [if_pos ((hm _).2 h00), if_pos (.inr h00)]
      exact impl_settle_v1 l hl ho ws hws q (i + 1) s F m S (by omega) hs (by omega) hm hF2 hF3
    rw [if_neg (fun e => h00 ((hm _).1 e)), if_neg (by rintro (e | e); exact h0 e; exact h00 e), impl_wt ws hws, Option.bind_some, impl_tf, Option.bind_some, firstCode2_s, Option.bind_some]
    rw [runS]
    by_cases h1 : (wt ws X.1).1 = 0
    rotate_left
    · have e : (stp ws s X.1).1 = (wt ws X.1).1 := by unfold stp; rw [if_neg h1]
      simp only [if_neg h1, e]
    rw [if_pos h1]
    by_cases h2 : tf (wt ws X.1).2.1 = 0
    rotate_left
    · have e : (stp ws s X.1).1 = tf (wt ws X.1).2.1 := by unfold stp; rw [if_pos h1, if_neg h2]
      simp only [if_neg h2, e]
    have hsz := tf_size h2
    have e1 : stp ws s X.1 = ((putO s 1 (wt ws X.1).2.1).2.2, (putO s 1 (wt ws X.1).2.1).1, (putO s 1 (wt ws X.1).2.1).2.1) := by unfold stp; rw [if_pos h1, if_pos h2]
    rw [if_pos h2, impl_putO hs 1 _ (by omega) (by omega) (by omega), Option.bind_some, e1]
    by_cases h3 : (putO s 1 (wt ws X.1).2.1).2.2 = 0
    rotate_left
    · simp only [if_neg h3]
    simp only [if_pos h3]
    have hs' := putO_ok hs (by omega) (by omega) h2 h3
    have hne : ∀ x ∈ F, x.1 ≠ X.1 := by
      intro x hx e
      rcases hF3 x hx with h4 | ⟨a, ha, ha0, hae⟩
      · exact h00 (e ▸ h4)
      · exact h0 (st_zero ho ha hmemi (hae.trans e) ha0)
    have hw := impl_with F (by omega) hF2 (X.1, X.2.2.1, (putO s 1 (wt ws X.1).2.1).2.1, ()) hne (fz_mode hmd)
    have hw : impl_withFile.s F X.1 (X.1, X.2.2.1, (putO s 1 (wt ws X.1).2.1).2.1, ()) = _ := hw
    rw [hw, Option.bind_some]
    refine impl_settle_v1 l hl ho ws hws q (i + 1) _ _ _ _ (by omega) hs' (by rw [insF_len]; omega) (hm.put _) (insF_srt hF2 hne) fun x hx => ?_
    rcases insF_mem.1 hx with hx | rfl
    · exact (hF3 x hx).imp (fun h => List.mem_append_left _ h) id
    · exact .inl (List.mem_append_right _ (by simp))
theorem impl_settle_v0 (l : List T_Entry.den) (hl : l.length ≤ 500000) (ho : OkIx l l.length) (ws : List T_Work.den) (hws : ws.length ≤ 1048576) : ∀ (q i : Nat) (s : List T_Object.den) (F : List T_File.den) (m : List (ByteArray × Bool)) (S : List ByteArray), i + q = l.length → OkStore s → F.length ≤ l.length + i → MapOk m S → SrtF F →
    (∀ x ∈ F, x.1 ∈ S ∨ ∃ e ∈ l, stg e = 0 ∧ e.1 = x.1) → impl_settle_L3.s s ws F.length l (l.length : Int) (i : Int) 0 F m = runS ws insF finI (clF (l.drop i) S) s F
  | 0, i, s, F, m, S, h, hs, hF, hm, hF2, hF3 => by
    rw [impl_settle_L3.e, if_neg (by omega), List.drop_eq_nil_of_le (by omega)]
    simp only [clone_o s (by have := hs.len; omega), Option.bind_some]
    rfl
  | q + 1, i, s, F, m, S, h, hs, hF, hm, hF2, hF3 => by
    have hi : i < l.length := by omega
    have hmemi := List.getElem_mem hi
    have hmd := (ho.md i hi hi).2.1
    rw [impl_settle_L3.e, if_pos (by omega), if_pos (by omega), Int.toNat_natCast, nth_at (t := T_Entry) hi, List.drop_eq_getElem_cons hi, wrap_succ (by omega), clF]
    generalize hX : l[i] = X at hmemi hmd
    by_cases h0 : stg X = 0
    · rw [if_pos h0, if_pos (.inl h0)]
      exact impl_settle_v0 l hl ho ws hws q (i + 1) s F m S (by omega) hs (by omega) hm hF2 hF3
    rw [if_neg h0]
    by_cases h00 : X.1 ∈ S
    · rw [if_pos ((hm _).2 h00), if_pos (.inr h00)]
      exact impl_settle_v0 l hl ho ws hws q (i + 1) s F m S (by omega) hs (by omega) hm hF2 hF3
    rw [if_neg (fun e => h00 ((hm _).1 e)), if_neg (by rintro (e | e); exact h0 e; exact h00 e), impl_wt ws hws, Option.bind_some, impl_tf, Option.bind_some, firstCode2_s, Option.bind_some]
    rw [runS]
    by_cases h1 : (wt ws X.1).1 = 0
    rotate_left
    · have e : (stp ws s X.1).1 = (wt ws X.1).1 := by unfold stp; rw [if_neg h1]
      simp only [if_neg h1, e]
    rw [if_pos h1]
    by_cases h2 : tf (wt ws X.1).2.1 = 0
    rotate_left
    · have e : (stp ws s X.1).1 = tf (wt ws X.1).2.1 := by unfold stp; rw [if_pos h1, if_neg h2]
      simp only [if_neg h2, e]
    have hsz := tf_size h2
    have e1 : stp ws s X.1 = ((putO s 1 (wt ws X.1).2.1).2.2, (putO s 1 (wt ws X.1).2.1).1, (putO s 1 (wt ws X.1).2.1).2.1) := by unfold stp; rw [if_pos h1, if_pos h2]
    rw [if_pos h2, impl_putO hs 1 _ (by omega) (by omega) (by omega), Option.bind_some, e1]
    by_cases h3 : (putO s 1 (wt ws X.1).2.1).2.2 = 0
    rotate_left
    · simp only [if_neg h3]
    simp only [if_pos h3]
    have hs' := putO_ok hs (by omega) (by omega) h2 h3
    have hne : ∀ x ∈ F, x.1 ≠ X.1 := by
      intro x hx e
      rcases hF3 x hx with h4 | ⟨a, ha, ha0, hae⟩
      · exact h00 (e ▸ h4)
      · exact h0 (st_zero ho ha hmemi (hae.trans e) ha0)
    have hw := impl_with F (by omega) hF2 (X.1, X.2.2.1, (putO s 1 (wt ws X.1).2.1).2.1, ()) hne (fz_mode hmd)
    have hw : impl_withFile.s F X.1 (X.1, X.2.2.1, (putO s 1 (wt ws X.1).2.1).2.1, ()) = _ := hw
    rw [hw, Option.bind_some]
    refine impl_settle_v1 l hl ho ws hws q (i + 1) _ _ _ _ (by omega) hs' (by rw [insF_len]; omega) (hm.put _) (insF_srt hF2 hne) fun x hx => ?_
    rcases insF_mem.1 hx with hx | rfl
    · exact (hF3 x hx).imp (fun h => List.mem_append_left _ h) id
    · exact .inl (List.mem_append_right _ (by simp))
end Go.Proofs.YtmojilihllhadaaGreatDoor.Ev
