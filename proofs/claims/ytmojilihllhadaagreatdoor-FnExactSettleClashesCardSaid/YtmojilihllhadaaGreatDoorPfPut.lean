/- An object put into a store: both ways make the same, and a store without fault stays one. -/
import Derived.Test.YtmojilihllhadaaGreatDoorPfGet0
set_option linter.unusedVariables false
set_option linter.unusedSimpArgs false
namespace Go.Proofs.YtmojilihllhadaaGreatDoor.Ev
open Go

/-- the place of a name: how many stand ahead of it -/
def plcI (s : List T_Object.den) (id : ByteArray) : Nat := (s.takeWhile fun o => decide (cmp (oid o) id < 0)).length
theorem at_tw {t : Ty} {c : t.den → Int} : ∀ {l : List t.den} {i : Nat}, At c l i → (l.takeWhile fun x => decide (c x < 0)).length = i
  | [], i, h => by have := h.le; simp at this; simp [this]
  | a :: r, i, h => by
    cases i with
    | zero =>
      have := h.hi 0 (by simp) (Nat.le_refl _)
      have this : ¬ c a < 0 := this
      rw [List.takeWhile_cons, decide_eq_false this]; rfl
    | succ i =>
      have ha : c a < 0 := h.lo 0 (by simp) (by omega)
      rw [List.takeWhile_cons, decide_eq_true ha]
      have hr : At c r i := ⟨by have := h.le; simp at this; omega, fun k hk hki => h.lo (k + 1) (by simp; omega) (by omega), fun k hk hki => h.hi (k + 1) (by simp; omega) (by omega)⟩
      simp [at_tw hr]
/-- what putting makes: a store, a name, a code -/
noncomputable def putO (s : List T_Object.den) (k : Int) (d : ByteArray) : List T_Object.den × ByteArray × Int :=
  match plc (t := T_Object) oid s (idB k d) with
  | some i => if (nth T_Object s i).2.2.1 = d then (s, idB k d, 0) else ([], noS, 6)
  | none => if s.length ≥ 200 then ([], noS, 2) else (s.take (plcI s (idB k d)) ++ ((idB k d, k, d, ()) :: s.drop (plcI s (idB k d))), idB k d, 0)

theorem spec_copy5 (s : List T_Object.den) (hs : s.length ≤ 1048576) : spec_l5Copy.s s = some s := by
  rw [spec_l5Copy.e, if_pos (by simp; omega), List.nil_append]
theorem spec_put_loop (s : List T_Object.den) (hs : s.length ≤ 1048576) (k : Int) (d id : ByteArray) {p : Nat} (hp : At (t := T_Object) (fun o => cmp (oid o) id) s p) : ∀ (m i : Nat), i + m = p →
    spec_l5Put_L10.s s k d id i = some (s.take p ++ ((id, k, d, ()) :: s.drop p), id, 0)
  | 0, i, h => by
    have hi : i = p := by omega
    subst hi
    have hle := hp.le
    have hlen : (List.drop 0 (List.take i s)).length ≤ s.length := by simp; omega
    rw [spec_l5Put_L10.e]
    have hc5 := spec_copy5 (List.take i s) (by simp; omega)
    have htl : (List.take i s).length ≤ s.length := by simp; omega
    have hdl : (List.drop i s).length ≤ s.length := by simp
    by_cases h0 : (i : Int) < (s.length : Int)
    · have hi : i < s.length := by omega
      have hnb : ¬ BLt (s[i] : T_Object.den).1 id := by
        rw [blt_iff]
        exact hp.hi i hi (Nat.le_refl _)
      rw [if_pos h0, if_pos (by omega), Int.toNat_natCast, nth_at hi, if_neg hnb]
      simp (disch := (simp; omega)) only [hc5, Option.bind_some, if_pos, fill1, List.drop_zero, List.take_length, Int.toNat_natCast]
      simp
    · rw [if_neg h0]
      simp (disch := (simp; omega)) only [hc5, Option.bind_some, if_pos, fill1, List.drop_zero, List.take_length, Int.toNat_natCast]
      simp
  | m + 1, i, h => by
    have hi : i < s.length := by have := hp.le; omega
    have hb : BLt (s[i] : T_Object.den).1 id := by rw [blt_iff]; exact hp.lo i hi (by omega)
    rw [spec_l5Put_L10.e, if_pos (by omega), if_pos (by omega), Int.toNat_natCast, nth_at hi, if_pos hb, wrap_succ (by omega)]
    exact spec_put_loop s hs k d id hp m (i + 1) (by omega)
theorem at_of {s : List T_Object.den} (ho : OkStore s) (id : ByteArray) : ∃ i, At (t := T_Object) (fun o => cmp (oid o) id) s i := by
  obtain ⟨i, h, _⟩ := impl_find_s ho id
  exact ⟨i, h⟩
theorem spec_putO {s : List T_Object.den} (ho : OkStore s) (k : Int) (d : ByteArray) (h0 : 1 ≤ k) (h1 : k ≤ 3) (hd : d.size ≤ 4000000000) : spec_l5Put.s s k d = some (putO s k d) := by
  have hl : s.length ≤ 1048576 := by have := ho.len; omega
  rw [spec_l5Put.e, spec_id k d h0 h1 hd, Option.bind_some, spec_find_s s hl, Option.bind_some]
  unfold putO
  cases hp : plc (t := T_Object) oid s (idB k d) with
  | some i =>
    have hi := plc_lt hp
    have e1 : ((i : Nat) : Int) ≥ 0 := by omega
    have e2 : (0 : Int) ≤ (i : Int) ∧ (i : Int) < (s.length : Int) := by omega
    simp only [if_pos e1, if_pos e2, Int.toNat_natCast]
    by_cases hd' : (nth T_Object s i).2.2.1 = d
    · simp only [if_pos hd', spec_copy5 s hl, Option.bind_some]
    · simp only [if_neg hd']
  | none =>
    have e1 : ¬ ((-1 : Int) ≥ 0) := by omega
    simp only [if_neg e1]
    by_cases h200 : s.length ≥ 200
    · rw [if_pos (by omega), if_pos h200]
    · obtain ⟨p, hp⟩ := at_of ho (idB k d)
      have := spec_put_loop s hl k d (idB k d) hp p 0 (by omega)
      rw [if_neg (by omega), if_neg h200]
      have e : spec_l5Put_L10.s s k d (idB k d) 0 = _ := this
      rw [e]
      have hpl : plcI s (idB k d) = p := at_tw hp
      rw [hpl]
theorem srt_pw {t : Ty} {key : t.den → ByteArray} {l : List t.den} : Srt key l ↔ l.Pairwise fun x y => cmp (key x) (key y) < 0 := by
  rw [List.pairwise_iff_getElem]
  exact ⟨fun h i j hi hj hij => h i j hi hj hij, fun h i j hi hj hij => h i j hi hj hij⟩
theorem plc_none {t : Ty} {key : t.den → ByteArray} {l : List t.den} {p : ByteArray} (h : plc key l p = none) : ∀ x ∈ l, key x ≠ p := by
  intro x hx
  have := List.findIdx?_eq_none_iff.1 h x hx
  exact of_decide_eq_false this
theorem putO_ok {s : List T_Object.den} (ho : OkStore s) {k : Int} {d : ByteArray} (h0 : 1 ≤ k) (h1 : k ≤ 3) (hd : tf d = 0) (hc : (putO s k d).2.2 = 0) : OkStore (putO s k d).1 := by
  unfold putO at hc ⊢
  cases hp : plc (t := T_Object) oid s (idB k d) with
  | some i =>
    rw [hp] at hc
    simp only at hc ⊢
    split at hc
    · rename_i h; rw [if_pos h]; exact ho
    · cases hc
  | none =>
    rw [hp] at hc
    simp only at hc ⊢
    split at hc
    · cases hc
    · rename_i h200
      rw [if_neg h200]
      obtain ⟨p, hpa⟩ := at_of ho (idB k d)
      have hpl : plcI s (idB k d) = p := at_tw hpa
      rw [hpl]
      have hne := plc_none hp
      have hs := srt_pw.1 ho.srt
      refine ⟨by have := hpa.le; simp; omega, fun o hm => ?_, srt_pw.2 ?_⟩
      · rcases List.mem_append.1 hm with hm | hm
        · exact ho.obj o (List.mem_of_mem_take hm)
        · rcases List.mem_cons.1 hm with rfl | hm
          · exact ⟨by show dc k d = 0; unfold dc; rw [if_pos ⟨h0, h1⟩]; exact hd, rfl⟩
          · exact ho.obj o (List.mem_of_mem_drop hm)
      · rw [← List.take_append_drop p s, List.pairwise_append] at hs
        rw [List.pairwise_append, List.pairwise_cons]
        have hlo : ∀ x ∈ s.take p, cmp (oid x) (idB k d) < 0 := by
          intro x hx
          obtain ⟨j, hj, rfl⟩ := List.getElem_of_mem hx
          rw [List.getElem_take]
          have hj' := hj
          simp at hj'
          exact hpa.lo j (by omega) (by omega)
        have hhi : ∀ y ∈ s.drop p, cmp (idB k d) (oid y) < 0 := by
          intro y hy
          obtain ⟨j, hj, rfl⟩ := List.getElem_of_mem hy
          rw [List.getElem_drop]
          have hj' := hj
          simp at hj'
          exact cmp_flip (hpa.hi (p + j) (by omega) (by omega)) (hne _ (List.getElem_mem _))
        refine ⟨hs.1, ⟨fun y hy => hhi y hy, hs.2.1⟩, fun x hx y hy => ?_⟩
        rcases List.mem_cons.1 hy with rfl | hy
        · exact hlo x hx
        · exact hs.2.2 x hx y hy

theorem clone_o (l : List T_Object.den) (hl : l.length ≤ 1048576) : slices_Clone___impl_Object_impl_Object_.s l = some l := by
  rw [slices_Clone___impl_Object_impl_Object_.e]
  by_cases h : l.length = 0
  · have : l = [] := List.eq_nil_of_length_eq_zero h
    subst this
    rw [if_pos h]
    unfold joinO
    exact if_pos rfl
  · rw [if_neg h, if_pos (by omega), List.nil_append]
theorem impl_putO {s : List T_Object.den} (ho : OkStore s) (k : Int) (d : ByteArray) (h0 : 1 ≤ k) (h1 : k ≤ 3) (hd : d.size ≤ 4000000000) : impl_put.s s k d = some ((putO s k d).2.2, (putO s k d).2.1, (putO s k d).1, ()) := by
  have hl : s.length ≤ 1048576 := by have := ho.len; omega
  obtain ⟨i, hi, hf⟩ := impl_find_s ho (idB k d)
  rw [impl_put.e, impl_id k d h0 h1 hd, Option.bind_some, hf, Option.bind_some]
  have hle := hi.le
  have hpl := hi.plc ho.srt
  unfold putO
  rw [hpl]
  cases hc : isAt (t := T_Object) (fun o => cmp (oid o) (idB k d)) s i with
  | true =>
    have hlt : i < s.length := by
      unfold isAt at hc
      split at hc
      · assumption
      · cases hc
    have c1 : (0 : Int) ≤ (i : Int) ∧ (i : Int) < (s.length : Int) := by omega
    simp only [if_true, if_pos c1, Int.toNat_natCast, clone_o s hl, Option.bind_some]
    by_cases hd' : (nth T_Object s i).2.2.1 = d
    · simp only [if_pos hd']
    · simp only [if_neg hd']
  | false =>
    have hpi : plcI s (idB k d) = i := at_tw hi
    simp only [Bool.false_eq_true, if_false, hpi]
    by_cases h200 : s.length ≥ 200
    · have : (s.length : Int) = 200 := by have := ho.len; omega
      rw [if_pos this, if_pos h200]
    · have h3 : ¬ (s.length : Int) = 200 := by omega
      simp only [if_neg h3, if_neg h200, clone_o s hl, Option.bind_some, fill1]
      have h5 : (0 : Nat) < [((idB k d, k, d, ()) : T_Object.den)].length ∧ (0 : Int) ≤ (i : Int) ∧ (i : Int) ≤ (s.length : Int) ∧ s.length + [((idB k d, k, d, ()) : T_Object.den)].length < 4294967296 := ⟨by simp, by omega, by omega, by simp; omega⟩
      refine (if_pos h5).trans ?_
      simp
end Go.Proofs.YtmojilihllhadaaGreatDoor.Ev
