/- The paths of an index that clash, in order; the files put in by their paths. -/
import Derived.Test.YtmojilihllhadaaGreatDoorPfPut
import Derived.Test.YtmojilihllhadaaGreatDoorPfStage0
set_option linter.unusedVariables false
set_option linter.unusedSimpArgs false
namespace Go.Proofs.YtmojilihllhadaaGreatDoor.Ev
open Go

open Classical in
/-- the clashes of entries, those of the paths 'seen' left out: the paths, with the mode of the first entry -/
noncomputable def clF : List T_Entry.den → List ByteArray → List (ByteArray × Int)
  | [], _ => []
  | e :: r, seen => if stg e = 0 ∨ e.1 ∈ seen then clF r seen else (e.1, e.2.2.1) :: clF r (seen ++ [e.1])
open Classical in
noncomputable def addP (seen : List ByteArray) (p : ByteArray) : List ByteArray := if p ∈ seen then seen else seen ++ [p]
theorem addP_len (seen : List ByteArray) (p : ByteArray) : (addP seen p).length ≤ seen.length + 1 := by
  unfold addP; split <;> simp
theorem spec_put9_loop (S : List ByteArray) (hS : S.length ≤ 1048576) (p : ByteArray) (hs : S.Pairwise fun a b => cmp a b < 0) (hp : ∀ q ∈ S, cmp q p < 0 ∨ q = p) :
    ∀ (m i : Nat), i + m = S.length → (∀ j (hj : j < S.length), j < i → cmp S[j] p < 0) → spec_l9Put_L2.s S p (i : Int) = some (addP S p)
  | 0, i, h, hb => by
    have hi : i = S.length := by omega
    subst hi
    have hn : p ∉ S := by
      intro hm
      obtain ⟨j, hj, e⟩ := List.getElem_of_mem hm
      have := hb j hj hj
      rw [e, cmp_self] at this
      omega
    unfold addP
    rw [if_neg hn, spec_l9Put_L2.e]
    simp (disch := first | omega | (simp; omega)) only [if_neg, if_pos, Int.toNat_natCast, fill1, List.nil_append, List.drop_zero, List.take_length, List.drop_length, List.append_nil]
  | m + 1, i, h, hb => by
    have hi : i < S.length := by omega
    rw [spec_l9Put_L2.e]
    simp (disch := omega) only [if_pos, Int.toNat_natCast, nth_at (t := .str) hi, wrap_succ]
    rcases hp _ (List.getElem_mem hi) with hlt | he
    · have hb' : BLt S[i] p := (blt_iff _ _).2 hlt
      rw [if_pos hb']
      refine spec_put9_loop S hS p hs hp m (i + 1) (by omega) fun j hj hji => ?_
      rcases Nat.lt_or_ge j i with hl | hg
      · exact hb j hj hl
      · have : j = i := by omega
        subst this; exact hlt
    · have hb' : ¬ BLt S[i] p := by rw [blt_iff, he, cmp_self]; omega
      have hm : p ∈ S := by rw [← he]; exact List.getElem_mem hi
      unfold addP
      rw [if_neg hb', if_pos he, if_pos hm]
theorem spec_put9 (S : List ByteArray) (hS : S.length ≤ 1048576) (p : ByteArray) (hs : S.Pairwise fun a b => cmp a b < 0) (hp : ∀ q ∈ S, cmp q p < 0 ∨ q = p) : spec_l9Put.s S p = some (addP S p) := by
  rw [spec_l9Put.e]
  exact spec_put9_loop S hS p hs hp S.length 0 (by omega) fun j _ h => by omega
theorem addP_srt {S : List ByteArray} {p : ByteArray} (hs : S.Pairwise fun a b => cmp a b < 0) (hp : ∀ q ∈ S, cmp q p < 0 ∨ q = p) : (addP S p).Pairwise fun a b => cmp a b < 0 := by
  unfold addP
  split
  · exact hs
  · rename_i hn
    rw [List.pairwise_append]
    refine ⟨hs, by simp, fun a ha b hb => ?_⟩
    rw [List.mem_singleton] at hb
    subst hb
    rcases hp a ha with h | h
    · exact h
    · subst h; exact absurd ha hn
theorem addP_mem {S : List ByteArray} {p q : ByteArray} : q ∈ addP S p ↔ q ∈ S ∨ q = p := by
  unfold addP
  split
  · rename_i h
    exact ⟨.inl, fun k => k.elim id fun e => e ▸ h⟩
  · simp
theorem ix_le {l : List T_Entry.den} (h : OkIx l l.length) {i j : Nat} (hi : i < l.length) (hj : j < l.length) (hij : i < j) : cmp (l[i] : T_Entry.den).1 (l[j] : T_Entry.den).1 < 0 ∨ (l[i] : T_Entry.den).1 = (l[j] : T_Entry.den).1 := by
  obtain ⟨k, rfl⟩ : ∃ k, j = i + 1 + k := ⟨j - (i + 1), by omega⟩
  exact ltE_le (ix_lt h k i hj)
theorem spec_clash_loop (l : List T_Entry.den) (hl : l.length ≤ 1048576) (ho : OkIx l l.length) : ∀ (m i : Nat) (S : List ByteArray), i + m = l.length → S.length ≤ i →
    S.Pairwise (fun a b => cmp a b < 0) → (∀ q ∈ S, ∃ j, ∃ hj : j < l.length, j < i ∧ q = (l[j] : T_Entry.den).1) →
    spec_l10Clashes_L3.s l S (i : Int) = some (S ++ (clF (l.drop i) S).map (·.1))
  | 0, i, S, h, hlen, hs, hq => by
    rw [spec_l10Clashes_L3.e, if_neg (by omega), List.drop_eq_nil_of_le (by omega)]
    simp [clF]
  | m + 1, i, S, h, hlen, hs, hq => by
    have hi : i < l.length := by omega
    have hle : ∀ q ∈ S, cmp q (l[i] : T_Entry.den).1 < 0 ∨ q = (l[i] : T_Entry.den).1 := by
      intro q hm
      obtain ⟨j, hj, hji, rfl⟩ := hq q hm
      exact ix_le ho hj hi hji
    have hst := ho.st i hi hi
    have hq' : ∀ T : List ByteArray, (∀ q ∈ T, q ∈ S ∨ q = (l[i] : T_Entry.den).1) → ∀ q ∈ T, ∃ j, ∃ hj : j < l.length, j < i + 1 ∧ q = (l[j] : T_Entry.den).1 := by
      intro T hT q hm
      rcases hT q hm with h1 | h1
      · obtain ⟨j, hj, hji, e⟩ := hq q h1
        exact ⟨j, hj, by omega, e⟩
      · exact ⟨i, hi, by omega, h1⟩
    rw [spec_l10Clashes_L3.e, List.drop_eq_getElem_cons hi]
    simp (disch := omega) only [if_pos, Int.toNat_natCast, nth_at (t := T_Entry) hi, wrap_succ]
    by_cases h0 : stg l[i] = 0
    · have hn : ¬ stg l[i] > 0 := by omega
      rw [if_neg hn, spec_clash_loop l hl ho m (i + 1) S (by omega) (by omega) hs (hq' S fun q h => .inl h)]
      rw [clF, if_pos (.inl h0)]
    · have hp : stg l[i] > 0 := by omega
      rw [if_pos hp, spec_put9 S (by omega) _ hs hle, Option.bind_some]
      have hal := addP_len S (l[i] : T_Entry.den).1
      rw [spec_clash_loop l hl ho m (i + 1) _ (by omega) (by omega) (addP_srt hs hle) (hq' _ fun q h => addP_mem.1 h), clF]
      unfold addP
      by_cases hm : (l[i] : T_Entry.den).1 ∈ S
      · rw [if_pos hm, if_pos (.inr hm)]
      · rw [if_neg hm, if_neg (by rintro (h | h); exact h0 h; exact hm h)]
        simp
theorem spec_clashes (l : List T_Entry.den) (hl : l.length ≤ 1048576) (ho : OkIx l l.length) : spec_l10Clashes.s l = some ((clF l []).map (·.1)) := by
  rw [spec_l10Clashes.e]
  have := spec_clash_loop l hl ho l.length 0 [] (by omega) (by simp) List.Pairwise.nil (by simp)
  rw [List.drop_zero, List.nil_append] at this
  exact this

/-- the mode of the first entry of a path -/
def mdF (l : List T_Entry.den) (p : ByteArray) : Int := (l.find? fun e => decide (e.1 = p)).elim 0 (·.2.2.1)
theorem clF_md {l : List T_Entry.den} (hr : l.Pairwise Rel) : ∀ (r pre : List T_Entry.den) (S : List ByteArray), l = pre ++ r → (∀ e ∈ pre, stg e ≠ 0 → e.1 ∈ S) → ∀ x ∈ clF r S, x.2 = mdF l x.1
  | [], pre, S, h, hS, x, hx => by simp [clF] at hx
  | e :: r, pre, S, h, hS, x, hx => by
    rw [clF] at hx
    by_cases hc : stg e = 0 ∨ e.1 ∈ S
    · rw [if_pos hc] at hx
      refine clF_md hr r (pre ++ [e]) S (by rw [h]; simp) (fun a ha h0 => ?_) x hx
      rcases List.mem_append.1 ha with ha | ha
      · exact hS a ha h0
      · rw [List.mem_singleton] at ha
        subst ha
        exact hc.resolve_left h0
    · rw [if_neg hc] at hx
      rcases List.mem_cons.1 hx with rfl | hx
      · show e.2.2.1 = mdF l e.1
        unfold mdF
        have hno : pre.find? (fun a => decide (a.1 = e.1)) = none := by
          rw [List.find?_eq_none]
          intro a ha hae
          have hae : a.1 = e.1 := of_decide_eq_true hae
          rw [h, List.pairwise_append] at hr
          have := hr.2.2 a ha e (by simp) hae
          exact hc (.inr (hae ▸ hS a ha this.2))
        rw [h, List.find?_append, hno, Option.none_or, List.find?_cons, decide_eq_true rfl]
        rfl
      · refine clF_md hr r (pre ++ [e]) _ (by rw [h]; simp) (fun a ha h0 => ?_) x hx
        rcases List.mem_append.1 ha with ha | ha
        · exact List.mem_append_left _ (hS a ha h0)
        · rw [List.mem_singleton] at ha
          subst ha
          exact List.mem_append_right _ (by simp)
/-- a path that clashes has an entry, of a stage -/
theorem clF_mem : ∀ (r : List T_Entry.den) (S : List ByteArray) (x : ByteArray × Int), x ∈ clF r S → x.1 ∉ S ∧ ∃ e ∈ r, e.1 = x.1 ∧ stg e ≠ 0
  | [], S, x, hx => by simp [clF] at hx
  | e :: r, S, x, hx => by
    rw [clF] at hx
    by_cases hc : stg e = 0 ∨ e.1 ∈ S
    · rw [if_pos hc] at hx
      obtain ⟨h1, a, h2, h3⟩ := clF_mem r S x hx
      exact ⟨h1, a, List.mem_cons_of_mem _ h2, h3⟩
    · rw [if_neg hc] at hx
      rcases List.mem_cons.1 hx with rfl | hx
      · exact ⟨fun h => hc (.inr h), e, by simp, rfl, fun h => hc (.inl h)⟩
      · obtain ⟨h1, a, h2, h3⟩ := clF_mem r _ x hx
        exact ⟨fun h => h1 (List.mem_append_left _ h), a, List.mem_cons_of_mem _ h2, h3⟩
theorem clF_nodup : ∀ (r : List T_Entry.den) (S : List ByteArray), ((clF r S).map (·.1)).Nodup
  | [], S => by simp [clF]
  | e :: r, S => by
    rw [clF]
    split
    · exact clF_nodup r S
    · rw [List.map_cons, List.nodup_cons]
      refine ⟨fun h => ?_, clF_nodup r _⟩
      obtain ⟨x, hx, hx2⟩ := List.mem_map.1 h
      have := (clF_mem r _ x hx).1
      rw [hx2] at this
      exact this (List.mem_append_right _ (by simp))
theorem clF_len : ∀ (r : List T_Entry.den) (S : List ByteArray), (clF r S).length ≤ r.length
  | [], S => by simp [clF]
  | e :: r, S => by
    rw [clF]
    have h1 := clF_len r S
    have h2 := clF_len r (S ++ [e.1])
    split <;> simp <;> omega

/-! #### files in the order of their paths -/
def insF (fs : List T_File.den) (f : T_File.den) : List T_File.den :=
  fs.take (fs.takeWhile fun o => decide (cmp o.1 f.1 < 0)).length ++ (f :: fs.drop (fs.takeWhile fun o => decide (cmp o.1 f.1 < 0)).length)
abbrev SrtF (fs : List T_File.den) : Prop := Srt (t := T_File) (fun f => f.1) fs
theorem srt_put {t : Ty} {key : t.den → ByteArray} {s : List t.den} (h : Srt key s) {y : t.den} {p : Nat} (hp : At (fun o => cmp (key o) (key y)) s p) (hne : ∀ x ∈ s, key x ≠ key y) : Srt key (s.take p ++ (y :: s.drop p)) := by
  have hs := srt_pw.1 h
  rw [srt_pw]
  rw [← List.take_append_drop p s, List.pairwise_append] at hs
  rw [List.pairwise_append, List.pairwise_cons]
  have hlo : ∀ x ∈ s.take p, cmp (key x) (key y) < 0 := by
    intro x hx
    obtain ⟨j, hj, rfl⟩ := List.getElem_of_mem hx
    rw [List.getElem_take]
    have hj' := hj
    simp at hj'
    exact hp.lo j (by omega) (by omega)
  have hhi : ∀ x ∈ s.drop p, cmp (key y) (key x) < 0 := by
    intro x hx
    obtain ⟨j, hj, rfl⟩ := List.getElem_of_mem hx
    rw [List.getElem_drop]
    have hj' := hj
    simp at hj'
    exact cmp_flip (hp.hi (p + j) (by omega) (by omega)) (hne _ (List.getElem_mem _))
  refine ⟨hs.1, ⟨fun x hx => hhi x hx, hs.2.1⟩, fun x hx z hz => ?_⟩
  rcases List.mem_cons.1 hz with rfl | hz
  · exact hlo x hx
  · exact hs.2.2 x hx z hz
/-- the place in a row in order -/
theorem at_srt {t : Ty} {key : t.den → ByteArray} : ∀ {s : List t.den} (h : Srt key s) (p : ByteArray), ∃ i, At (fun o => cmp (key o) p) s i := by
  intro s h p
  refine ⟨(s.takeWhile fun o => decide (cmp (key o) p < 0)).length, ?_, ?_, ?_⟩
  · exact (List.takeWhile_sublist _).length_le
  · intro k hk hki
    have h1 : (s.takeWhile fun o => decide (cmp (key o) p < 0))[k] = s[k] := by
      have := List.takeWhile_prefix (fun o : t.den => decide (cmp (key o) p < 0)) (l := s)
      exact this.getElem hki
    have := List.all_takeWhile (l := s) (p := fun o => decide (cmp (key o) p < 0))
    rw [List.all_eq_true] at this
    have := this _ (List.getElem_mem hki)
    rw [h1] at this
    exact of_decide_eq_true this
  · intro k hk hki hc
    have hlen : (s.takeWhile fun o => decide (cmp (key o) p < 0)).length < s.length := by omega
    have hc0 : cmp (key s[(s.takeWhile fun o => decide (cmp (key o) p < 0)).length]) p < 0 := by
      rcases Nat.eq_or_lt_of_le hki with e | e
      · simp only [e]; exact hc
      · exact cmp_trans (h _ k hlen hk e) hc
    have hsplit := List.takeWhile_append_dropWhile (p := fun o => decide (cmp (key o) p < 0)) (l := s)
    have hd : s.dropWhile (fun o => decide (cmp (key o) p < 0)) ≠ [] := by
      intro e
      rw [e, List.append_nil] at hsplit
      rw [hsplit] at hlen
      omega
    have := List.head_dropWhile_not (fun o => decide (cmp (key o) p < 0)) hd
    have he : (s.dropWhile fun o => decide (cmp (key o) p < 0)).head hd = s[(s.takeWhile fun o => decide (cmp (key o) p < 0)).length] := by
      rw [List.head_eq_getElem]
      have : ∀ (A D : List t.den) (hA : A ++ D = s) (h0 : 0 < D.length) (h1 : A.length < s.length), D[0] = s[A.length] := by
        intro A D hA h0 h1
        subst hA
        rw [List.getElem_append_right (Nat.le_refl _)]
        simp
      exact this _ _ hsplit _ _
    rw [he, decide_eq_true hc0] at this
    cases this
theorem insF_at {fs : List T_File.den} {f : T_File.den} {p : Nat} (h : At (t := T_File) (fun o => cmp o.1 f.1) fs p) : insF fs f = fs.take p ++ (f :: fs.drop p) := by
  unfold insF
  rw [at_tw h]
theorem insF_srt {fs : List T_File.den} {f : T_File.den} (h : SrtF fs) (hn : ∀ x ∈ fs, x.1 ≠ f.1) : SrtF (insF fs f) := by
  obtain ⟨p, hp⟩ := at_srt h f.1
  rw [insF_at hp]
  exact srt_put h hp hn
theorem insF_mem {fs : List T_File.den} {f x : T_File.den} : x ∈ insF fs f ↔ x ∈ fs ∨ x = f := by
  unfold insF
  generalize (fs.takeWhile fun o => decide (cmp o.1 f.1 < 0)).length = k
  rw [List.mem_append, List.mem_cons]
  have : x ∈ fs ↔ x ∈ fs.take k ∨ x ∈ fs.drop k := by rw [← List.mem_append, List.take_append_drop]
  rw [this]
  constructor
  · rintro (h | h | h)
    · exact .inl (.inl h)
    · exact .inr h
    · exact .inl (.inr h)
  · rintro ((h | h) | h)
    · exact .inl h
    · exact .inr (.inr h)
    · exact .inr (.inl h)
theorem insF_len (fs : List T_File.den) (f : T_File.den) : (insF fs f).length = fs.length + 1 := by
  unfold insF
  have := (List.takeWhile_sublist (fun o : T_File.den => decide (cmp o.1 f.1 < 0)) (l := fs)).length_le
  simp
  omega
def srtF (fs : List T_File.den) : List T_File.den := fs.foldl insF []
theorem srtF_add (fs : List T_File.den) (f : T_File.den) : srtF (fs ++ [f]) = insF (srtF fs) f := by
  unfold srtF
  rw [List.foldl_append]; rfl
theorem srtF_take {fs : List T_File.den} {i : Nat} (hi : i < fs.length) : srtF (fs.take (i + 1)) = insF (srtF (fs.take i)) fs[i] := by
  rw [List.take_succ_eq_append_getElem hi, srtF_add]
theorem foldF_mem (fs : List T_File.den) : ∀ (a : List T_File.den) (x : T_File.den), x ∈ fs.foldl insF a ↔ x ∈ fs ∨ x ∈ a := by
  induction fs with
  | nil => intro a x; simp
  | cons f r ih =>
    intro a x
    rw [List.foldl_cons, ih, insF_mem, List.mem_cons]
    constructor
    · rintro (h | h | h)
      · exact .inl (.inr h)
      · exact .inr h
      · exact .inl (.inl h)
    · rintro ((h | h) | h)
      · exact .inr (.inr h)
      · exact .inl h
      · exact .inr (.inl h)
theorem srtF_mem {fs : List T_File.den} {x : T_File.den} : x ∈ srtF fs ↔ x ∈ fs := by
  unfold srtF; rw [foldF_mem]; simp
theorem foldF_len (fs : List T_File.den) : ∀ a : List T_File.den, (fs.foldl insF a).length = a.length + fs.length := by
  induction fs with
  | nil => intro a; simp
  | cons f r ih => intro a; rw [List.foldl_cons, ih, insF_len, List.length_cons]; omega
theorem srtF_len (fs : List T_File.den) : (srtF fs).length = fs.length := by unfold srtF; rw [foldF_len]; simp
theorem foldF_srt (fs : List T_File.den) : ∀ a : List T_File.den, SrtF a → (fs.map (·.1)).Nodup → (∀ x ∈ fs, ∀ y ∈ a, y.1 ≠ x.1) → SrtF (fs.foldl insF a) := by
  induction fs with
  | nil => intro a h _ _; exact h
  | cons f r ih =>
    intro a h hn hd
    rw [List.map_cons, List.nodup_cons] at hn
    refine ih _ (insF_srt h (hd f (by simp))) hn.2 fun x hx y hy => ?_
    rcases insF_mem.1 hy with hy | rfl
    · exact hd x (by simp [hx]) y hy
    · intro e; exact hn.1 (by rw [e]; exact List.mem_map_of_mem hx)
theorem srtF_srt {fs : List T_File.den} (h : (fs.map (·.1)).Nodup) : SrtF (srtF fs) :=
  foldF_srt fs [] (fun i j hi => by simp at hi) h (by simp)
theorem foldF_id (fs : List T_File.den) : ∀ a : List T_File.den, SrtF (a ++ fs) → fs.foldl insF a = a ++ fs := by
  induction fs with
  | nil => intro a _; simp
  | cons f r ih =>
    intro a h
    have hlt : ∀ x ∈ a, cmp x.1 f.1 < 0 := by
      have h2 := srt_pw.1 h
      rw [List.pairwise_append] at h2
      exact fun x hx => h2.2.2 x hx f (by simp)
    have hin : insF a f = a ++ [f] := by
      rw [insF_at (p := a.length) ⟨Nat.le_refl _, fun k hk _ => hlt _ (List.getElem_mem hk), fun k hk hk2 => by omega⟩]
      simp
    rw [List.foldl_cons, hin, ih (a ++ [f]) (by simpa using h)]
    simp
theorem srtF_id {fs : List T_File.den} (h : SrtF fs) : srtF fs = fs := by
  unfold srtF
  rw [foldF_id fs [] (by simpa using h)]
  simp
end Go.Proofs.YtmojilihllhadaaGreatDoor.Ev
