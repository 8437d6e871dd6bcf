/- PfTree0, PfTree1, PfTree2, PfTree3, PfTree4a, PfTree5a, PfTreeX. -/
import Derived.Test.YtmojilihllhadaaGreatDoorPfGc
import Derived.Test.YtmojilihllhadaaGreatDoorPfGb
set_option linter.unusedVariables false
set_option linter.unusedSimpArgs false
set_option linter.unusedSectionVars false
namespace Go.Proofs.YtmojilihllhadaaGreatDoor.Ev
open Go
def fE (f : T_File.den) (k : Int) : T_Entry.den := (f.1, k, f.2.1, f.2.2.1, ())
def one3 (f : T_File.den) (k : Int) : List T_Entry.den := if zeroF f then [] else [fE f k]
def stg3 (b o t : T_File.den) : List T_Entry.den := one3 b 1 ++ one3 o 2 ++ one3 t 3
theorem one3_len (f : T_File.den) (k : Int) : (one3 f k).length ≤ 1 := by unfold one3; split <;> simp
theorem spec_stages_step (L : List T_File.den) (hL : L.length = 3) (i : Nat) (hi : i < 3) (m : List T_Entry.den) (hm : m.length ≤ 3) :
    spec_l11Stages_L4.s L m.length (i : Int) m = spec_l11Stages_L4.s L (m ++ one3 (nth T_File L i) ((i + 1 : Nat) : Int)).length ((i + 1 : Nat) : Int) (m ++ one3 (nth T_File L i) ((i + 1 : Nat) : Int)) := by
  conv => lhs; rw [spec_l11Stages_L4.e]
  have hw : IntKind.i64.wrap ((i : Int) + 1) = ((i + 1 : Nat) : Int) := wrap_succ (by omega)
  simp (disch := first | omega | (simp; omega)) only [if_pos, Int.toNat_natCast, hw, fill1]
  unfold one3
  by_cases hz : zeroF (nth T_File L i)
  · have hz' : (nth T_File L i).1 = noS ∧ (nth T_File L i).2.1 = 0 ∧ (nth T_File L i).2.2.1 = noS := hz
    rw [if_pos hz, List.append_nil]
    first | rw [if_pos hz'] | skip
    done
  · have hz' : ¬ ((nth T_File L i).1 = noS ∧ (nth T_File L i).2.1 = 0 ∧ (nth T_File L i).2.2.1 = noS) := hz
    rw [if_neg hz]
    first | rw [if_neg hz'] | skip
    rfl
theorem spec_stages (b o t : T_File.den) : spec_l11Stages.s b o t = some (stg3 b o t) := by
  rw [spec_l11Stages.e]
  have e3 : fillElems [((0 : Nat), (b.1, b.2.1, b.2.2.1, ())), ((1 : Nat), (o.1, o.2.1, o.2.2.1, ())), ((2 : Nat), (t.1, t.2.1, t.2.2.1, ()))] (List.replicate (3 : Nat) (noS, (0 : Int), noS, ())) = ([b, o, t] : List T_File.den) := rfl
  have h0 := spec_stages_step [b, o, t] rfl 0 (by omega) [] (by simp)
  have l1 := one3_len b 1
  have l2 := one3_len o 2
  have h1 := spec_stages_step [b, o, t] rfl 1 (by omega) (one3 b 1) (by omega)
  have h2 := spec_stages_step [b, o, t] rfl 2 (by omega) (one3 b 1 ++ one3 o 2) (by rw [List.length_append]; omega)
  have h0 : spec_l11Stages_L4.s [b, o, t] 0 0 [] = spec_l11Stages_L4.s [b, o, t] (one3 b 1).length 1 (one3 b 1) := h0
  have h1 : spec_l11Stages_L4.s [b, o, t] (one3 b 1).length 1 (one3 b 1) = spec_l11Stages_L4.s [b, o, t] (one3 b 1 ++ one3 o 2).length 2 (one3 b 1 ++ one3 o 2) := h1
  have h2 : spec_l11Stages_L4.s [b, o, t] (one3 b 1 ++ one3 o 2).length 2 (one3 b 1 ++ one3 o 2) = spec_l11Stages_L4.s [b, o, t] (stg3 b o t).length 3 (stg3 b o t) := h2
  have h3 : spec_l11Stages_L4.s [b, o, t] (stg3 b o t).length 3 (stg3 b o t) = some (stg3 b o t) := by rw [spec_l11Stages_L4.e, if_neg (by omega)]
  exact h0.trans (h1.trans (h2.trans h3))
/-! #### settled, clashing -/
def setR (s : List T_Object.den) (f : T_File.den) : T_TreesResult.den := if zeroF f then ((0 : Int), s, [], [], ()) else ((0 : Int), s, [fE f 0], [], ())
def clR (s : List T_Object.den) (b o t : T_File.den) (p x : ByteArray) : T_TreesResult.den := ((0 : Int), s, stg3 b o t, [(p, x, ())], ())
theorem isNone_s (f : T_File.den) : impl_isNone.s f = some (decide (zeroF f)) := by
  rw [impl_isNone.e]
  congr 1
  have h1 : (ByteArray.toList f.fst == noS.toList) = decide (f.fst = noS) := by
    rw [Bool.eq_iff_iff]
    simp only [beq_iff_eq, decide_eq_true_eq]
    constructor
    · intro h
      rw [Go.Lib.toList_data, Go.Lib.toList_data] at h
      exact ba_ext h
    · intro h; rw [h]
  have h2 : (ByteArray.toList f.snd.snd.fst == noS.toList) = decide (f.snd.snd.fst = noS) := by
    rw [Bool.eq_iff_iff]
    simp only [beq_iff_eq, decide_eq_true_eq]
    constructor
    · intro h
      rw [Go.Lib.toList_data, Go.Lib.toList_data] at h
      exact ba_ext h
    · intro h; rw [h]
  rw [h1, h2, Bool.eq_iff_iff, decide_eq_true_eq]
  unfold zeroF
  simp only [Bool.and_eq_true, decide_eq_true_eq, beq_iff_eq]
theorem impl_settled_s (s : List T_Object.den) (hs : s.length ≤ 1048576) (f : T_File.den) : impl_settled.s s f = some (setR s f) := by
  rw [impl_settled.e, clone_o s hs, Option.bind_some, isNone_s, Option.bind_some]
  unfold setR
  by_cases h : zeroF f
  · rw [if_pos (decide_eq_true h), if_pos h]
  · rw [if_neg (by simp [h]), if_neg h]; rfl
def stp (x : ByteArray) (f : T_File.den) (k : Int) (W : List T_Work.den) : List T_Work.den := if zeroF f then W else [(f.1, x, ())]
theorem impl_clash_step (x : ByteArray) (b o t : T_File.den) (s : List T_Object.den) (N : Nat) (i : Nat) (hi : i < 3) (E : List T_Entry.den) (hE : E.length ≤ 3) (W : List T_Work.den) :
    impl_clash_L3.s x b.1 b.2.1 b.2.2.1 o.1 o.2.1 o.2.2.1 t.1 t.2.1 t.2.2.1 (i : Int) 0 0 N E.length W.length s E W =
      impl_clash_L3.s x b.1 b.2.1 b.2.2.1 o.1 o.2.1 o.2.2.1 t.1 t.2.1 t.2.2.1 ((i + 1 : Nat) : Int) 0 0 N (E ++ one3 (nth T_File [b, o, t] i) ((i + 1 : Nat) : Int)).length (stp x (nth T_File [b, o, t] i) ((i + 1 : Nat) : Int) W).length s (E ++ one3 (nth T_File [b, o, t] i) ((i + 1 : Nat) : Int)) (stp x (nth T_File [b, o, t] i) ((i + 1 : Nat) : Int) W) := by
  conv => lhs; rw [impl_clash_L3.e]
  have e3 : ([(b.1, b.2.1, b.2.2.1, ()), (o.1, o.2.1, o.2.2.1, ()), (t.1, t.2.1, t.2.2.1, ())] : List T_File.den) = [b, o, t] := rfl
  rw [if_pos (by omega), if_pos (by omega), Int.toNat_natCast, wrap_succ (by omega)]
  show (impl_isNone.s (nth T_File [b, o, t] i)).bind _ = _
  rw [isNone_s, Option.bind_some]
  unfold one3 stp
  by_cases hz : zeroF (nth T_File [b, o, t] i)
  · rw [if_pos (decide_eq_true hz), if_pos hz, if_pos hz, List.append_nil]
  · rw [if_neg (by simp [hz]), if_neg hz, if_neg hz]
    show (if E.length + [fE (nth T_File [b, o, t] i) ((i + 1 : Nat) : Int)].length < 4294967296 then _ else _) = _
    rw [if_pos (by simp; omega)]
    rfl
theorem impl_clash_s (s : List T_Object.den) (hs : s.length ≤ 1048576) (b o t : T_File.den) (x : ByteArray) :
    impl_clash.s s b.1 b.2.1 b.2.2.1 o.1 o.2.1 o.2.2.1 t.1 t.2.1 t.2.2.1 x = some ((0 : Int), s, stg3 b o t, stp x t 3 (stp x o 2 (stp x b 1 [])), ()) := by
  rw [impl_clash.e, clone_o s hs, Option.bind_some]
  have l1 := one3_len b 1
  have l2 := one3_len o 2
  have h0 := impl_clash_step x b o t s s.length 0 (by omega) [] (by simp) []
  have h1 := impl_clash_step x b o t s s.length 1 (by omega) (one3 b 1) (by omega) (stp x b 1 [])
  have h2 := impl_clash_step x b o t s s.length 2 (by omega) (one3 b 1 ++ one3 o 2) (by rw [List.length_append]; omega) (stp x o 2 (stp x b 1 []))
  refine Eq.trans h0 (Eq.trans h1 (Eq.trans h2 ?_))
  rw [impl_clash_L3.e, if_neg (by omega)]
  rfl
structure OneP (p : ByteArray) (b o t : T_File.den) : Prop where
  pb : ¬ zeroF b → b.1 = p
  po : ¬ zeroF o → o.1 = p
  pt : ¬ zeroF t → t.1 = p
theorem impl_clash_p {s : List T_Object.den} (hs : s.length ≤ 1048576) {p : ByteArray} {b o t : T_File.den} (h : OneP p b o t) (x : ByteArray) (hz : ¬ zeroF o ∨ ¬ zeroF t) :
    impl_clash.s s b.1 b.2.1 b.2.2.1 o.1 o.2.1 o.2.2.1 t.1 t.2.1 t.2.2.1 x = some (clR s b o t p x) := by
  rw [impl_clash_s s hs]
  unfold clR
  have e : stp x t 3 (stp x o 2 (stp x b 1 [])) = [(p, x, ())] := by
    by_cases ht : zeroF t
    · have ho : ¬ zeroF o := hz.resolve_right fun k => k ht
      unfold stp
      rw [if_pos ht, if_neg ho, h.po ho]
    · unfold stp
      rw [if_neg ht, h.pt ht]
  rw [e]
/-! #### texts of files -/
def txO (s : List T_Object.den) (f : T_File.den) : ByteArray := (getO s 1 f.2.2.1).1
theorem blobOf_s {s : List T_Object.den} (ho : OkStore s) (f : T_File.den) : impl_blobOf.s s f = some (txO s f) := by rw [impl_blobOf.e, impl_get_s ho, Option.bind_some]; rfl
theorem idB_ne (k : Int) (d : ByteArray) : idB k d ≠ noS := fun h => by
  have := congrArg ByteArray.size h
  unfold idB at this
  rw [ba_size] at this
  simp [noS] at this
  cases this
theorem getO_ok {s : List T_Object.den} (ho : OkStore s) {id : ByteArray} (h : (getO s 1 id).2 = true) : ∃ i, plc (t := T_Object) oid s id = some i ∧ (nth T_Object s i).2.2.1 = (getO s 1 id).1 ∧ tf (getO s 1 id).1 = 0 ∧ idB 1 (getO s 1 id).1 = id := by
  unfold getO at h ⊢
  cases hp : plc (t := T_Object) oid s id with
  | none => rw [hp] at h; cases h
  | some i =>
    rw [hp] at h
    have hi := plc_lt hp
    have hn : nth T_Object s i = s[i] := nth_at hi
    have hid : oid s[i] = id := by
      have := (List.findIdx?_eq_some_iff_getElem.1 hp).2.1
      exact of_decide_eq_true this
    have hob := ho.obj _ (List.getElem_mem hi)
    by_cases hk : (nth T_Object s i).2.1 = 1
    · simp only [if_pos hk]
      rw [hn] at hk ⊢
      refine ⟨i, rfl, by rw [hn], (okObj hob.1).2.2, ?_⟩
      have := hob.2
      rw [hk] at this
      exact this.trans hid
    · simp only [if_neg hk] at h
      cases h
theorem id_ne {s : List T_Object.den} (ho : OkStore s) {id : ByteArray} (h : (getO s 1 id).2 = true) : id ≠ noS := by
  obtain ⟨_, _, _, _, h4⟩ := getO_ok ho h
  rw [← h4]
  exact idB_ne _ _
theorem tf_noS : tf noS = 0 := by decide
theorem getO_tf {s : List T_Object.den} (ho : OkStore s) (id : ByteArray) : tf (getO s 1 id).1 = 0 := by
  by_cases h : (getO s 1 id).2 = true
  · obtain ⟨_, _, _, h3, _⟩ := getO_ok ho h
    exact h3
  · have : (getO s 1 id).1 = noS := by
      unfold getO at h ⊢
      split
      · split
        · rename_i h1 h2; simp only [h1, if_pos h2] at h; exact absurd trivial h
        · rfl
      · rfl
    rw [this, tf_noS]
theorem txO_zero {s : List T_Object.den} (ho : OkStore s) {f : T_File.den} (h : zeroF f) : txO s f = noS := by
  unfold txO
  rw [h.2.2]
  by_cases k : (getO s 1 noS).2 = true
  · exact absurd rfl (id_ne ho k)
  · unfold getO at k ⊢
    split
    · split
      · rename_i h1 h2; simp only [h1, if_pos h2] at k; exact absurd trivial k
      · rfl
    · rfl
theorem l11Text_s {s : List T_Object.den} (ho : OkStore s) (f : T_File.den) : spec_l11Text.s s f = some (txO s f) := by
  rw [spec_l11Text.e]
  by_cases h : zeroF f
  · have h' : f.1 = noS ∧ f.2.1 = 0 ∧ f.2.2.1 = noS := h
    rw [if_pos h', txO_zero ho h]
  · have h' : ¬ (f.1 = noS ∧ f.2.1 = 0 ∧ f.2.2.1 = noS) := h
    rw [if_neg h', spec_get_s s (by have := ho.len; omega), Option.bind_some]; rfl
theorem putO_there {s : List T_Object.den} (ho : OkStore s) {id : ByteArray} (h : (getO s 1 id).2 = true) : putO s 1 (getO s 1 id).1 = (s, id, 0) := by
  obtain ⟨i, h1, h2, _, h4⟩ := getO_ok ho h
  unfold putO
  rw [h4, h1]
  simp only [if_pos h2]
theorem putO_len {s : List T_Object.den} (ho : OkStore s) (d : ByteArray) : (putO s 1 d).1.length ≤ 201 := by
  have := ho.len
  unfold putO
  split
  · split
    · exact Nat.le_trans this (by omega)
    · simp
  · split
    · simp
    · simp; omega
theorem putO_id (s : List T_Object.den) (d : ByteArray) (h : (putO s 1 d).2.2 = 0) : (putO s 1 d).2.1 = idB 1 d := by
  unfold putO at h ⊢
  split
  · rename_i i hi
    rw [hi] at h
    by_cases k : (nth T_Object s i).2.2.1 = d
    · simp only [if_pos k]
    · simp only [if_neg k] at h
      cases h
  · rename_i hi
    rw [hi] at h
    by_cases k : s.length ≥ 200
    · simp only [if_pos k] at h; cases h
    · simp only [if_neg k]
structure SmallT (r : T_TreesResult.den) : Prop where
  st : r.2.1.length ≤ 1048576
  ix : r.2.2.1.length ≤ 1048576
  wk : r.2.2.2.1.length ≤ 1048576
  bulk : bulk T_TreesResult r ≤ 9223372036854775806
def szF (f : T_File.den) : Prop := (f.1 : ByteArray).size ≤ 1048576 ∧ (f.2.2.1 : ByteArray).size ≤ 1048576
theorem smallT_bad (c : Int) : SmallT (c, [], [], [], ()) := ⟨by simp, by simp, by simp, by show 0 + (0 + (0 + (0 + 0))) ≤ _; omega⟩
theorem smallT_of {s : List T_Object.den} (hs : OkStore s) {E : List T_Entry.den} (hE : E.length ≤ 1048576) (he : ∀ x ∈ E, (x.1 : ByteArray).size ≤ 1048576 ∧ (x.2.2.2.1 : ByteArray).size ≤ 1048576) {W : List T_Work.den} (hW : W.length ≤ 1048576) (hw : ∀ x ∈ W, (x.1 : ByteArray).size ≤ 1048576 ∧ (x.2.1 : ByteArray).size ≤ 1048576) : SmallT ((0 : Int), s, E, W, ()) := by
  have hl := hs.len
  refine ⟨by show s.length ≤ _; omega, hE, hW, ?_⟩
  have h1 := bulk_store hs
  have h2 : Ev.bulk (.sl T_Entry) E ≤ E.length * (3000000 + 1) := bulk_le fun o ho => by
    obtain ⟨h1, h2⟩ := he o ho
    show (o.1 : ByteArray).size + (0 + (0 + ((o.2.2.2.1 : ByteArray).size + 0))) ≤ 3000000
    omega
  have h3 : Ev.bulk (.sl T_Work) W ≤ W.length * (3000000 + 1) := bulk_le fun o ho => by
    obtain ⟨h1, h2⟩ := hw o ho
    show (o.1 : ByteArray).size + ((o.2.1 : ByteArray).size + 0) ≤ 3000000
    omega
  show 0 + (Ev.bulk (.sl T_Object) s + (Ev.bulk (.sl T_Entry) E + (Ev.bulk (.sl T_Work) W + 0))) ≤ _
  have h4 : E.length * (3000000 + 1) ≤ 1048576 * 3000001 := Nat.mul_le_mul_right _ hE
  have h5 : W.length * (3000000 + 1) ≤ 1048576 * 3000001 := Nat.mul_le_mul_right _ hW
  omega
theorem smallT_set {s : List T_Object.den} (hs : OkStore s) {f : T_File.den} (h : szF f) : SmallT (setR s f) := by
  unfold setR
  split
  · exact smallT_of hs (by simp) (by simp) (by simp) (by simp)
  · exact smallT_of hs (by simp) (fun x hx => by rw [List.mem_singleton.1 hx]; exact h) (by simp) (by simp)
theorem stg3_mem {b o t : T_File.den} (hb : szF b) (ho : szF o) (ht : szF t) : ∀ x ∈ stg3 b o t, (x.1 : ByteArray).size ≤ 1048576 ∧ (x.2.2.2.1 : ByteArray).size ≤ 1048576 := by
  intro x hx
  have one : ∀ (f : T_File.den) (k : Int), szF f → x ∈ one3 f k → (x.1 : ByteArray).size ≤ 1048576 ∧ (x.2.2.2.1 : ByteArray).size ≤ 1048576 := fun f k hf hm => by
    unfold one3 at hm
    split at hm
    · cases hm
    · rw [List.mem_singleton.1 hm]; exact hf
  unfold stg3 at hx
  rcases List.mem_append.1 hx with hx | hx
  · rcases List.mem_append.1 hx with hx | hx
    · exact one b 1 hb hx
    · exact one o 2 ho hx
  · exact one t 3 ht hx
theorem smallT_cl {s : List T_Object.den} (hs : OkStore s) {b o t : T_File.den} (hb : szF b) (ho : szF o) (ht : szF t) {p x : ByteArray} (hp : p.size ≤ 1048576) (hx : x.size ≤ 1048576) : SmallT (clR s b o t p x) := by
  have l1 := one3_len b 1
  have l2 := one3_len o 2
  have l3 := one3_len t 3
  exact smallT_of hs (by unfold stg3; simp only [List.length_append]; omega) (stg3_mem hb ho ht) (by simp) (fun y hy => by rw [List.mem_singleton.1 hy]; exact ⟨hp, hx⟩)
theorem pick_s (b o t : T_File.den) : spec_l11Pick.s b o t = some (if o.2.2.1 = t.2.2.1 then o.2.2.1 else if zeroF b then noS else if o.2.2.1 = b.2.2.1 then t.2.2.1 else if t.2.2.1 = b.2.2.1 then o.2.2.1 else noS) := by
  rw [spec_l11Pick.e]
  by_cases h1 : o.2.2.1 = t.2.2.1
  · rw [if_pos h1, if_pos h1]
  · rw [if_neg h1, if_neg h1]
    by_cases h2 : zeroF b
    · have h2' : b.1 = noS ∧ b.2.1 = 0 ∧ b.2.2.1 = noS := h2
      rw [if_pos h2', if_pos h2]
    · have h2' : ¬ (b.1 = noS ∧ b.2.1 = 0 ∧ b.2.2.1 = noS) := h2
      rw [if_neg h2', if_neg h2]
      split
      · rfl
      · split <;> rfl
section
variable {s : List T_Object.den} (ho : OkStore s) {p : ByteArray} {b o t : T_File.den} (hp : OneP p b o t) (zo : ¬ zeroF o) (zt : ¬ zeroF t)
include ho
theorem mode_all : ∃ (md md' : Int) (ok : Bool), spec_l11Mode.s b o t = some (md, ok) ∧
    impl_mergeBoth.s s b o t = impl_mergeBoth_L20.s s (!ok) (txO s o) b.1 b.2.1 b.2.2.1 o.1 o.2.1 o.2.2.1 t.1 t.2.1 t.2.2.1 0 b o t o.1 md' o.2.2.1 ∧ (ok = true → md' = md) ∧ (ok = false → zeroF b) := by
  rw [spec_l11Mode.e, impl_mergeBoth.e, blobOf_s ho, Option.bind_some]
  by_cases h1 : (o.2.1 : Int) = t.2.1
  · rw [if_pos h1, if_pos h1]
    exact ⟨o.2.1, o.2.1, true, rfl, rfl, fun _ => rfl, fun h => by cases h⟩
  rw [if_neg h1, if_neg h1, isNone_s, Option.bind_some]
  by_cases h2 : zeroF b
  · have h2' : b.1 = noS ∧ b.2.1 = 0 ∧ b.2.2.1 = noS := h2
    rw [if_pos h2', decide_eq_true h2]
    by_cases h3 : (o.2.1 : Int) = b.2.1
    · rw [if_pos h3]
      exact ⟨0, t.2.1, false, rfl, rfl, (fun h => by cases h), fun _ => h2⟩
    · rw [if_neg h3]
      exact ⟨0, o.2.1, false, rfl, rfl, (fun h => by cases h), fun _ => h2⟩
  · have h2' : ¬ (b.1 = noS ∧ b.2.1 = 0 ∧ b.2.2.1 = noS) := h2
    rw [if_neg h2', decide_eq_false h2]
    by_cases h3 : (o.2.1 : Int) = b.2.1
    · rw [if_pos h3, if_pos h3]
      exact ⟨t.2.1, t.2.1, true, rfl, rfl, (fun _ => rfl), fun h => by cases h⟩
    · rw [if_neg h3, if_neg h3]
      exact ⟨o.2.1, o.2.1, true, rfl, rfl, (fun _ => rfl), fun h => by cases h⟩
include hp zo in
theorem impl_end {s' : List T_Object.den} (hs' : s'.length ≤ 1048576) (xb : Bool) (x : ByteArray) (md : Int) (id : ByteArray) (hid : id ≠ noS) :
    (if xb = true then (impl_clash.s s' b.1 b.2.1 b.2.2.1 o.1 o.2.1 o.2.2.1 t.1 t.2.1 t.2.2.1 x).bind fun r33 => some r33 else (impl_settled.s s' (o.1, md, id, ())).bind fun r34 => some r34) = some (if xb = true then clR s' b o t p x else ((0 : Int), s', [(o.1, (0 : Int), md, id, ())], [], ())) := by
  cases xb with
  | true => rw [if_pos rfl, if_pos rfl, impl_clash_p hs' hp x (.inl zo)]; rfl
  | false =>
    have hz : ¬ zeroF (o.1, md, id, ()) := fun h => hid h.2.2
    rw [if_neg (by simp), if_neg (by simp), impl_settled_s s' hs']
    unfold setR
    rw [if_neg hz]; rfl
include hp zo in
theorem impl_L23 (xb : Bool) (x : ByteArray) (md : Int) (id : ByteArray) (hid : id ≠ noS) :
    impl_mergeBoth_L23.s s xb x 0 b o t o.1 md id = some (if xb = true then clR s b o t p x else ((0 : Int), s, [(o.1, (0 : Int), md, id, ())], [], ())) := by
  rw [impl_mergeBoth_L23.e]
  exact impl_end ho hp zo (by have := ho.len; omega) xb x md id hid
noncomputable def mI (s : List T_Object.den) (b o t : T_File.den) (p : ByteArray) (xb : Bool) (md : Int) (r : T_MergeResult.den) : T_TreesResult.den :=
  if isBin (txO s b) = true then clR s b o t p (txO s o) else if isBin (txO s o) = true then clR s b o t p (txO s o) else if isBin (txO s t) = true then clR s b o t p (txO s o) else
    if r.1 = 0 then (if r.2.1 > 0 then clR s b o t p r.2.2.1 else if (putO s 1 r.2.2.1).2.2 = 0 then (if xb = true then clR (putO s 1 r.2.2.1).1 b o t p r.2.2.1 else ((0 : Int), (putO s 1 r.2.2.1).1, [(o.1, (0 : Int), md, (putO s 1 r.2.2.1).2.1, ())], [], ())) else ((putO s 1 r.2.2.1).2.2, [], [], [], ())) else clR s b o t p (txO s o)
include hp zo in
theorem impl_merge (xb : Bool) (md : Int) (hid : o.2.2.1 ≠ noS) {r : T_MergeResult.den} (hr : Mgd (txO s b) (txO s o) (txO s t) r) :
    ((impl_blobOf.s s (b.1, b.2.1, b.2.2.1, ())).bind fun r26 => (impl_blobOf.s s (t.1, t.2.1, t.2.2.1, ())).bind fun r27 => (impl_IsBinary.s r26).bind fun r28 => if (r28 = true)
      then impl_mergeBoth_L23.s s true (txO s o) 0 b o t o.1 md o.2.2.1
      else (impl_IsBinary.s (txO s o)).bind fun r29 => if (r29 = true)
      then impl_mergeBoth_L23.s s true (txO s o) 0 b o t o.1 md o.2.2.1
      else (impl_IsBinary.s r27).bind fun r30 => if (r30 = true)
      then impl_mergeBoth_L23.s s true (txO s o) 0 b o t o.1 md o.2.2.1
      else (impl_mergeTexts.s r26 (txO s o) r27).bind fun r31 => if (r31.fst = (0 : Int))
      then if (r31.snd.fst > (0 : Int))
      then impl_mergeBoth_L23.s s true r31.snd.snd.fst 0 b o t o.1 md o.2.2.1
      else (impl_put.s s 1 r31.snd.snd.fst).bind fun r32 => if (r32.fst = (0 : Int))
      then impl_mergeBoth_L23v1.s (List.length r32.snd.snd.fst) xb r31.snd.snd.fst r32.snd.snd.fst 0 b o t o.1 md r32.snd.fst
      else some (r32.fst, [], [], [], ())
      else impl_mergeBoth_L23.s s true (txO s o) 0 b o t o.1 md o.2.2.1) = some (mI s b o t p xb md r) := by
  have e1 : impl_blobOf.s s (b.1, b.2.1, b.2.2.1, ()) = some (txO s b) := blobOf_s ho b
  have e2 : impl_blobOf.s s (t.1, t.2.1, t.2.2.1, ()) = some (txO s t) := blobOf_s ho t
  have hsz := hr.sz
  have l23 : ∀ x, impl_mergeBoth_L23.s s true x 0 b o t o.1 md o.2.2.1 = some (clR s b o t p x) := fun x => (impl_L23 ho hp zo true x md o.2.2.1 hid).trans (by rw [if_pos rfl])
  rw [e1, e2]
  simp only [Option.bind_some, impl_bin, l23, hr.im]
  unfold mI
  by_cases h1 : isBin (txO s b) = true
  · rw [if_pos h1, if_pos h1]
  rw [if_neg h1, if_neg h1]
  by_cases h2 : isBin (txO s o) = true
  · rw [if_pos h2, if_pos h2]
  rw [if_neg h2, if_neg h2]
  by_cases h3 : isBin (txO s t) = true
  · rw [if_pos h3, if_pos h3]
  rw [if_neg h3, if_neg h3]
  by_cases h4 : (r.1 : Int) = 0
  rotate_left
  · rw [if_neg h4, if_neg h4]
  rw [if_pos h4, if_pos h4]
  by_cases h5 : (r.2.1 : Int) > 0
  · rw [if_pos h5, if_pos h5]
  rw [if_neg h5, if_neg h5, impl_putO ho 1 _ (by omega) (by omega) (by omega), Option.bind_some]
  have hl := putO_len ho r.2.2.1
  by_cases h6 : (putO s 1 r.2.2.1).2.2 = 0
  · have h7 := putO_id s r.2.2.1 h6
    rw [if_pos h6, if_pos h6, impl_mergeBoth_L23v1.e]
    exact impl_end ho hp zo (by show (putO s 1 r.2.2.1).1.length ≤ _; omega) xb r.2.2.1 md (putO s 1 r.2.2.1).2.1 (by rw [h7]; exact idB_ne _ _)
  · rw [if_neg h6, if_neg h6]
end
section
variable {s : List T_Object.den} (ho : OkStore s) {p : ByteArray} {b o t : T_File.den} (hp : OneP p b o t) (zo : ¬ zeroF o) (zt : ¬ zeroF t)
def outI (s : List T_Object.den) (b o t : T_File.den) (p : ByteArray) (xb : Bool) (x : ByteArray) (md : Int) (id : ByteArray) : T_TreesResult.den := if xb = true then clR s b o t p x else ((0 : Int), s, [(o.1, (0 : Int), md, id, ())], [], ())
include ho hp zo in
theorem L20_all (xb : Bool) (md : Int) (h1 : o.2.2.1 ≠ noS) (h2 : t.2.2.1 ≠ noS) {r : T_MergeResult.den} (hr : Mgd (txO s b) (txO s o) (txO s t) r) :
    impl_mergeBoth_L20.s s xb (txO s o) b.1 b.2.1 b.2.2.1 o.1 o.2.1 o.2.2.1 t.1 t.2.1 t.2.2.1 0 b o t o.1 md o.2.2.1 =
      some (if o.2.2.1 = t.2.2.1 then outI s b o t p xb (txO s o) md o.2.2.1 else if zeroF b then mI s b o t p xb md r else if o.2.2.1 = b.2.2.1 then outI s b o t p xb (txO s o) md t.2.2.1 else if t.2.2.1 = b.2.2.1 then outI s b o t p xb (txO s o) md o.2.2.1 else mI s b o t p xb md r) := by
  have e0 : impl_isNone.s (b.1, b.2.1, b.2.2.1, ()) = some (decide (zeroF b)) := isNone_s b
  have hm := impl_merge ho hp zo xb md h1 hr
  rw [impl_mergeBoth_L20.e]
  by_cases c1 : (o.2.2.1 : ByteArray) = t.2.2.1
  · rw [if_pos c1, if_pos c1]
    exact impl_L23 ho hp zo xb _ md _ h1
  rw [if_neg c1, if_neg c1, e0, Option.bind_some]
  by_cases c2 : zeroF b
  · rw [if_pos (decide_eq_true c2), Option.bind_some, if_pos (decide_eq_true c2), if_pos c2]
    exact hm
  rw [if_neg (by simp [c2]), if_neg c2]
  by_cases c3 : (t.2.2.1 : ByteArray) = b.2.2.1
  · have c4 : ¬ (o.2.2.1 : ByteArray) = b.2.2.1 := fun e => c1 (e.trans c3.symm)
    rw [if_pos c3, if_neg c4, if_pos c3]
    exact impl_L23 ho hp zo xb _ md _ h1
  rw [if_neg c3, Option.bind_some, if_neg (by simp [c2])]
  by_cases c4 : (o.2.2.1 : ByteArray) = b.2.2.1
  · rw [if_pos c4, if_pos c4]
    exact impl_L23 ho hp zo xb _ md _ h2
  rw [if_neg c4, if_neg c4, if_neg c3]
  exact hm
include ho hp zo in
theorem spec_picked (md : Int) (ok : Bool) (pk : ByteArray) (hm : spec_l11Mode.s b o t = some (md, ok)) (hk : spec_l11Pick.s b o t = some pk) (hn : pk ≠ noS) : spec_l11Both.s s b o t = some (outI s b o t p (!ok) (txO s o) md pk) := by
  rw [spec_l11Both.e, hm, Option.bind_some, hk, Option.bind_some, l11Text_s ho, Option.bind_some, if_neg hn, if_neg hn, spec_stages, Option.bind_some, fill1, fill1, hp.po zo]
  unfold outI
  rw [hp.po zo]
  cases ok with
  | true => rfl
  | false => rfl
include ho hp zo in
theorem spec_merged (md : Int) (ok : Bool) (hm : spec_l11Mode.s b o t = some (md, ok)) (hk : spec_l11Pick.s b o t = some noS) {r : T_MergeResult.den} (hr : Mgd (txO s b) (txO s o) (txO s t) r) (hok : ok = false → zeroF b)
    (h1 : (getO s 1 o.2.2.1).2 = true) (h2 : (getO s 1 t.2.2.1).2 = true) : spec_l11Both.s s b o t = some (mI s b o t p (!ok) md r) := by
  have hsz := hr.sz
  have b1 : spec_IsBinary.s (txO s b) = some (isBin (txO s b)) := spec_bin _ (by have := tf_size (getO_tf ho b.2.2.1); unfold txO; omega)
  have b2 : spec_IsBinary.s (txO s o) = some (isBin (txO s o)) := spec_bin _ (by have := tf_size (getO_tf ho o.2.2.1); unfold txO; omega)
  have b3 : spec_IsBinary.s (txO s t) = some (isBin (txO s t)) := spec_bin _ (by have := tf_size (getO_tf ho t.2.2.1); unfold txO; omega)
  have hpo := hp.po zo
  rw [spec_l11Both.e, hm, Option.bind_some, hk, Option.bind_some, l11Text_s ho, Option.bind_some, if_pos rfl, l11Text_s ho, Option.bind_some, l11Text_s ho, Option.bind_some, b1, Option.bind_some, spec_stages]
  simp only [Option.bind_some, fill1, b2, b3, hr.sp, hpo]
  unfold mI
  by_cases c1 : isBin (txO s b) = true
  · rw [if_pos c1, if_pos c1]; rfl
  rw [if_neg c1, if_neg c1]
  by_cases c2 : isBin (txO s o) = true
  · by_cases c3 : isBin (txO s t) = true
    · simp only [if_pos c2, if_pos c3]; rfl
    · simp only [if_pos c2, if_neg c3]; rfl
  by_cases c3 : isBin (txO s t) = true
  · simp only [if_neg c2, if_pos c3]; rfl
  simp only [if_neg c2, if_neg c3]
  by_cases c4 : (r.1 : Int) = 0
  rotate_left
  · simp only [if_neg c4]
    by_cases c5 : (r.2.1 : Int) > 0
    all_goals rfl
  rw [if_pos c4, if_pos c4, if_pos c4]
  by_cases c5 : (r.2.1 : Int) > 0
  · rw [if_pos c5, if_pos c5]; rfl
  rw [if_neg c5, if_neg c5]
  cases ok with
  | true =>
    rw [if_pos rfl, if_pos trivial, spec_putO ho 1 _ (by omega) (by omega) (by omega), Option.bind_some]
    by_cases c6 : (putO s 1 r.2.2.1).2.2 = 0
    · rw [if_pos c6, if_pos c6, hpo]; rfl
    · rw [if_neg c6, if_neg c6]
  | false =>
    have hz := hok rfl
    have hx : putO s 1 r.2.2.1 = (s, (putO s 1 r.2.2.1).2.1, 0) := by
      rcases hr.nil (txO_zero ho hz) c4 c5 with e | e
      · rw [e]; unfold txO; rw [putO_there ho h1]
      · rw [e]; unfold txO; rw [putO_there ho h2]
    have x1 : (putO s 1 r.2.2.1).1 = s := congrArg (·.1) hx
    have x2 : (putO s 1 r.2.2.1).2.2 = 0 := congrArg (·.2.2) hx
    rw [if_neg (by simp), if_pos x2, x1]
    rfl
include ho hp zo zt in
theorem both_all (h1 : (getO s 1 o.2.2.1).2 = true) (h2 : (getO s 1 t.2.2.1).2 = true) (zb : szF b) (zo' : szF o) (zt' : szF t) :
    ∃ R, spec_l11Both.s s b o t = some R ∧ impl_mergeBoth.s s b o t = some R ∧ SmallT R := by
  have n1 := id_ne ho h1
  have n2 := id_ne ho h2
  obtain ⟨r, hr⟩ := merge_both (txO s b) (txO s o) (txO s t) (getO_tf ho _) (getO_tf ho _) (getO_tf ho _)
  obtain ⟨md, md', ok, m1, m2, m3, m4⟩ := mode_all ho (b := b) (o := o) (t := t)
  have hk := pick_s b o t
  have hl := L20_all ho hp zo (!ok) md' n1 n2 hr
  have hpz : p.size ≤ 1048576 := by rw [← hp.po zo]; exact zo'.1
  have htx : ∀ f : T_File.den, (txO s f).size ≤ 1048576 := fun f => by have := tf_size (getO_tf ho f.2.2.1); unfold txO; omega
  have hout : ∀ xb x md id, x.size ≤ 1048576 → id.size ≤ 1048576 → SmallT (outI s b o t p xb x md id) := fun xb x md id hx hid => by
    unfold outI
    split
    · exact smallT_cl ho zb zo' zt' hpz hx
    · exact smallT_of ho (by simp) (fun y hy => by rw [List.mem_singleton.1 hy]; exact ⟨zo'.1, hid⟩) (by simp) (by simp)
  have hoe : ∀ x id, outI s b o t p (!ok) x md' id = outI s b o t p (!ok) x md id := fun x id => by
    cases ok with
    | true => rw [m3 rfl]
    | false => rfl
  have hme : mI s b o t p (!ok) md' r = mI s b o t p (!ok) md r := by
    cases ok with
    | true => rw [m3 rfl]
    | false => unfold mI; simp
  have hms : SmallT (mI s b o t p (!ok) md r) := by
    have hsz := hr.sz
    unfold mI
    split
    · exact smallT_cl ho zb zo' zt' hpz (htx o)
    · split
      · exact smallT_cl ho zb zo' zt' hpz (htx o)
      · split
        · exact smallT_cl ho zb zo' zt' hpz (htx o)
        · split
          · rename_i c4
            split
            · exact smallT_cl ho zb zo' zt' hpz (by omega)
            · split
              · rename_i c6
                have hok := putO_ok ho (k := 1) (by omega) (by omega) (hr.tf c4) c6
                have hid := putO_id s r.2.2.1 c6
                split
                · exact smallT_cl hok zb zo' zt' hpz (by omega)
                · exact smallT_of hok (by simp) (fun y hy => by rw [List.mem_singleton.1 hy]; exact ⟨zo'.1, by show (putO s 1 r.2.2.1).2.1.size ≤ _; rw [hid, idB_size]; omega⟩) (by simp) (by simp)
              · exact smallT_bad _
          · exact smallT_cl ho zb zo' zt' hpz (htx o)
  rw [m2, hl]
  by_cases c1 : (o.2.2.1 : ByteArray) = t.2.2.1
  · rw [if_pos c1] at hk
    exact ⟨_, spec_picked ho hp zo md ok _ m1 hk n1, by rw [if_pos c1, hoe], hout _ _ _ _ (htx o) zo'.2⟩
  rw [if_neg c1] at hk ⊢
  by_cases c2 : zeroF b
  · rw [if_pos c2] at hk
    exact ⟨_, spec_merged ho hp zo md ok m1 hk hr m4 h1 h2, by rw [if_pos c2, hme], hms⟩
  rw [if_neg c2] at hk ⊢
  by_cases c4 : (o.2.2.1 : ByteArray) = b.2.2.1
  · rw [if_pos c4] at hk
    exact ⟨_, spec_picked ho hp zo md ok _ m1 hk n2, by rw [if_pos c4, hoe], hout _ _ _ _ (htx o) zt'.2⟩
  rw [if_neg c4] at hk ⊢
  by_cases c3 : (t.2.2.1 : ByteArray) = b.2.2.1
  · rw [if_pos c3] at hk
    exact ⟨_, spec_picked ho hp zo md ok _ m1 hk n1, by rw [if_pos c3, hoe], hout _ _ _ _ (htx o) zo'.2⟩
  rw [if_neg c3] at hk ⊢
  exact ⟨_, spec_merged ho hp zo md ok m1 hk hr m4 h1 h2, by rw [hme], hms⟩
end
theorem file_ext {x y : T_File.den} : (x.1 = y.1 ∧ x.2.1 = y.2.1 ∧ x.2.2.1 = y.2.2.1) ↔ x = y := by
  constructor
  · intro h
    obtain ⟨a, b, c, d⟩ := x
    obtain ⟨a', b', c', d'⟩ := y
    obtain ⟨h1, h2, h3⟩ := h
    have h1 : a = a' := h1
    have h2 : b = b' := h2
    have h3 : c = c' := h3
    subst h1; subst h2; subst h3
    rfl
  · rintro rfl; exact ⟨rfl, rfl, rfl⟩
noncomputable def mk_ (b o t : T_File.den) : Int := open Classical in if o = t then 0 else if t = b then 1 else if o = b then 2 else if zeroF o then 4 else if zeroF t then 4 else 3
theorem spec_mk (b o t : T_File.den) : spec_MergeKind.s b o t = some (mk_ b o t) := by
  rw [spec_MergeKind.e]
  unfold mk_
  by_cases h1 : o = t
  · rw [if_pos (file_ext.2 h1), if_pos h1]
  rw [if_neg (fun k => h1 (file_ext.1 k)), if_neg h1]
  by_cases h2 : t = b
  · rw [if_pos (file_ext.2 h2), if_pos h2]
  rw [if_neg (fun k => h2 (file_ext.1 k)), if_neg h2]
  by_cases h3 : o = b
  · rw [if_pos (file_ext.2 h3), if_pos h3]
  rw [if_neg (fun k => h3 (file_ext.1 k)), if_neg h3]
  by_cases h4 : zeroF o
  · have h4' : o.1 = noS ∧ o.2.1 = 0 ∧ o.2.2.1 = noS := h4
    rw [if_pos h4', if_pos h4]
  have h4' : ¬ (o.1 = noS ∧ o.2.1 = 0 ∧ o.2.2.1 = noS) := h4
  rw [if_neg h4', if_neg h4]
  by_cases h5 : zeroF t
  · have h5' : t.1 = noS ∧ t.2.1 = 0 ∧ t.2.2.1 = noS := h5
    rw [if_pos h5', if_pos h5]
  have h5' : ¬ (t.1 = noS ∧ t.2.1 = 0 ∧ t.2.2.1 = noS) := h5
  rw [if_neg h5', if_neg h5]
theorem zero_eq {x : T_File.den} (h : zeroF x) : x = zF := file_ext.1 ⟨h.1, h.2.1, h.2.2⟩
section
variable {s : List T_Object.den} (ho : OkStore s) {p : ByteArray} {b o t : T_File.den} (hp : OneP p b o t)
include ho hp
theorem spec_path : spec_l11Path.s s b o t = if mk_ b o t = 2 then some (setR s t) else if mk_ b o t = 3 then spec_l11Both.s s b o t else if mk_ b o t = 4 then some (clR s b o t p (if zeroF o then txO s t else txO s o)) else some (setR s o) := by
  rw [spec_l11Path.e, spec_mk, Option.bind_some]
  by_cases h2 : mk_ b o t = 2
  · rw [if_pos h2, if_pos h2]
    unfold setR
    by_cases hz : zeroF t
    · have hz' : t.1 = noS ∧ t.2.1 = 0 ∧ t.2.2.1 = noS := hz
      rw [if_pos hz', if_pos hz]
    · have hz' : ¬ (t.1 = noS ∧ t.2.1 = 0 ∧ t.2.2.1 = noS) := hz
      rw [if_neg hz', if_neg hz]; rfl
  rw [if_neg h2, if_neg h2]
  by_cases h3 : mk_ b o t = 3
  · rw [if_pos h3, if_pos h3]
    cases spec_l11Both.s s b o t <;> rfl
  rw [if_neg h3, if_neg h3]
  by_cases h4 : mk_ b o t = 4
  · rw [if_pos h4, if_pos h4, l11Text_s ho, Option.bind_some]
    unfold clR
    by_cases hz : zeroF o
    · have hz' : o.1 = noS ∧ o.2.1 = 0 ∧ o.2.2.1 = noS := hz
      have ht : ¬ zeroF t := fun k => by
        have e : o = t := (zero_eq hz).trans (zero_eq k).symm
        have : mk_ b o t = 0 := by unfold mk_; rw [if_pos e]
        rw [this] at h4; exact absurd h4 (by decide)
      rw [if_pos hz', if_pos hz, l11Text_s ho, Option.bind_some, spec_stages, Option.bind_some, fill1, hp.pt ht]
    · have hz' : ¬ (o.1 = noS ∧ o.2.1 = 0 ∧ o.2.2.1 = noS) := hz
      rw [if_neg hz', if_neg hz, spec_stages, Option.bind_some, fill1, hp.po hz]
  rw [if_neg h4, if_neg h4]
  unfold setR
  by_cases hz : zeroF o
  · have hz' : o.1 = noS ∧ o.2.1 = 0 ∧ o.2.2.1 = noS := hz
    rw [if_pos hz', if_pos hz]
  · have hz' : ¬ (o.1 = noS ∧ o.2.1 = 0 ∧ o.2.2.1 = noS) := hz
    rw [if_neg hz', if_neg hz]; rfl
theorem kind4 (h : mk_ b o t = 4) : ¬ zeroF o ∨ ¬ zeroF t := by
  by_cases k : zeroF o
  · right
    intro k2
    have e : o = t := (zero_eq k).trans (zero_eq k2).symm
    have : mk_ b o t = 0 := by unfold mk_; rw [if_pos e]
    rw [this] at h; exact absurd h (by decide)
  · exact .inl k
theorem kind3 (h : mk_ b o t = 3) : ¬ zeroF o ∧ ¬ zeroF t := by
  unfold mk_ at h
  split at h
  · exact absurd h (by decide)
  split at h
  · exact absurd h (by decide)
  split at h
  · exact absurd h (by decide)
  split at h
  · exact absurd h (by decide)
  split at h
  · exact absurd h (by decide)
  · exact ⟨by assumption, by assumption⟩
end
theorem impl_mk (b o t : T_File.den) : impl_MergeKind.s b o t = some (mk_ b o t) := by
  rw [impl_MergeKind.e]
  unfold mk_
  by_cases h1 : o = t
  · rw [if_pos (file_ext.2 h1), if_pos h1]
  rw [if_neg (fun k => h1 (file_ext.1 k)), if_neg h1]
  by_cases h2 : t = b
  · rw [if_pos (file_ext.2 h2), if_pos h2]
  rw [if_neg (fun k => h2 (file_ext.1 k)), if_neg h2]
  by_cases h3 : o = b
  · rw [if_pos (file_ext.2 h3), if_pos h3]
  rw [if_neg (fun k => h3 (file_ext.1 k)), if_neg h3, isNone_s, isNone_s, Option.bind_some, Option.bind_some]
  by_cases h4 : zeroF o
  · rw [if_pos (decide_eq_true h4), if_pos h4]
  rw [if_neg (by simp [h4]), if_neg h4]
  by_cases h5 : zeroF t
  · rw [if_pos (decide_eq_true h5), if_pos h5]
  · rw [if_neg (by simp [h5]), if_neg h5]
theorem mk_cases (b o t : T_File.den) : mk_ b o t = 0 ∨ mk_ b o t = 1 ∨ mk_ b o t = 2 ∨ mk_ b o t = 3 ∨ mk_ b o t = 4 := by
  unfold mk_
  split
  · simp
  split
  · simp
  split
  · simp
  split
  · simp
  split <;> simp
theorem bind_id {α : Type} (x : Option α) : (x.bind fun r => some r) = x := by cases x <;> rfl
section
variable {s : List T_Object.den} (ho : OkStore s) {p : ByteArray} {b o t : T_File.den} (hp : OneP p b o t)
include ho hp
theorem impl_path : impl_mergePath.s s b o t = if mk_ b o t = 2 then some (setR s t) else if mk_ b o t = 3 then impl_mergeBoth.s s b o t else if mk_ b o t = 4 then some (clR s b o t p (if zeroF o then txO s t else txO s o)) else some (setR s o) := by
  have hl : s.length ≤ 1048576 := by have := ho.len; omega
  rw [impl_mergePath.e, impl_mk, Option.bind_some]
  simp only [bind_id, impl_settled_s s hl, isNone_s, blobOf_s ho, Option.bind_some]
  rcases mk_cases b o t with h | h | h | h | h
  · rw [h]; rfl
  · rw [h]; rfl
  · rw [h]; rfl
  · rw [h]; rfl
  · have hz := kind4 ho hp h
    rw [h]
    simp only [impl_clash_p hl hp _ hz]
    by_cases k : zeroF o
    · simp [k]
    · simp [k]
theorem path_all (hb : ∀ f ∈ [b, o, t], ¬ zeroF f → (getO s 1 f.2.2.1).2 = true) (zb : szF b) (zo : szF o) (zt : szF t) : ∃ R, spec_l11Path.s s b o t = some R ∧ impl_mergePath.s s b o t = some R ∧ SmallT R := by
  have htx : ∀ f : T_File.den, (txO s f).size ≤ 1048576 := fun f => by have := tf_size (getO_tf ho f.2.2.1); unfold txO; omega
  rw [spec_path ho hp, impl_path ho hp]
  rcases mk_cases b o t with h | h | h | h | h
  · rw [h]; exact ⟨_, rfl, rfl, smallT_set ho zo⟩
  · rw [h]; exact ⟨_, rfl, rfl, smallT_set ho zo⟩
  · rw [h]; exact ⟨_, rfl, rfl, smallT_set ho zt⟩
  · have hk := kind3 ho hp h
    rw [h]
    exact both_all ho hp hk.1 hk.2 (hb o (by simp) hk.1) (hb t (by simp) hk.2) zb zo zt
  · have hk := kind4 ho hp h
    rw [h]
    refine ⟨_, rfl, rfl, smallT_cl ho zb zo zt ?_ ?_⟩
    · rcases hk with hk | hk
      · rw [← hp.po hk]; exact zo.1
      · rw [← hp.pt hk]; exact zt.1
    · split
      · exact htx t
      · exact htx o
end
def Ext (s s' : List T_Object.den) : Prop := ∀ id, (getO s 1 id).2 = true → getO s' 1 id = getO s 1 id
theorem Ext.rfl' (s : List T_Object.den) : Ext s s := fun _ _ => rfl
theorem Ext.trans {s t u : List T_Object.den} (h : Ext s t) (k : Ext t u) : Ext s u := fun id hi => by
  have h1 := h id hi
  rw [← h1]
  exact k id (by rw [h1]; exact hi)
theorem getO_find (l : List T_Object.den) (k : Int) (id : ByteArray) : getO l k id = (l.find? fun o => decide (oid o = id)).elim (noS, false) fun o => if o.2.1 = k then (o.2.2.1, true) else (noS, false) := by
  unfold getO plc
  cases hf : l.findIdx? (fun x => decide (oid x = id)) with
  | none =>
    have : l.find? (fun o => decide (oid o = id)) = none := by
      rw [List.find?_eq_none]
      rw [List.findIdx?_eq_none_iff] at hf
      intro x hx
      rw [hf x hx]; simp
    rw [this]; rfl
  | some n =>
    obtain ⟨h1, h2, h3⟩ := List.findIdx?_eq_some_iff_getElem.1 hf
    have : l.find? (fun o => decide (oid o = id)) = some l[n] := by
      rw [List.find?_eq_some_iff_getElem]
      exact ⟨h2, n, h1, rfl, fun j hj => by have := h3 j hj; simpa using this⟩
    rw [this]
    have hn : nth T_Object l n = l[n] := nth_at h1
    simp only [hn]
    rfl
theorem ext_put {s : List T_Object.den} {d : ByteArray} (hc : (putO s 1 d).2.2 = 0) : Ext s (putO s 1 d).1 := by
  unfold putO at hc ⊢
  cases hp : plc (t := T_Object) oid s (idB 1 d) with
  | some i =>
    rw [hp] at hc
    by_cases h : (nth T_Object s i).2.2.1 = d
    · simp only [if_pos h]; exact Ext.rfl' s
    · simp only [if_neg h] at hc; cases hc
  | none =>
    rw [hp] at hc
    by_cases h : s.length ≥ 200
    · simp only [if_pos h] at hc; cases hc
    · simp only [if_neg h]
      have hno := plc_none (t := T_Object) hp
      intro id hi
      have hne : ¬ idB 1 d = id := fun e => by
        rw [getO_find] at hi
        have : s.find? (fun o => decide (oid o = id)) = none := by
          rw [List.find?_eq_none]
          intro x hx
          have := hno x hx
          rw [← e]
          simp [this]
        rw [this] at hi
        cases hi
      rw [getO_find, getO_find]
      have e : (s.take (plcI s (idB 1 d)) ++ ((idB 1 d, (1 : Int), d, ()) :: s.drop (plcI s (idB 1 d)))).find? (fun o : T_Object.den => decide (oid o = id)) = s.find? (fun o => decide (oid o = id)) := by
        conv => rhs; rw [← List.take_append_drop (plcI s (idB 1 d)) s]
        rw [List.find?_append, List.find?_append, List.find?_cons]
        have : decide (oid ((idB 1 d, (1 : Int), d, ()) : T_Object.den) = id) = false := decide_eq_false hne
        rw [this]
      rw [e]
structure GoodR (s : List T_Object.den) (R : T_TreesResult.den) : Prop where
  ok : R.1 = 0 → OkStore R.2.1
  ext : R.1 = 0 → Ext s R.2.1
  il : R.2.2.1.length ≤ 3
  ie : ∀ e ∈ R.2.2.1, ((e : T_Entry.den).1 : ByteArray).size ≤ 1048576 ∧ (e.2.2.2.1 : ByteArray).size ≤ 1048576
  wl : R.2.2.2.1.length ≤ 1
  we : ∀ e ∈ R.2.2.2.1, ((e : T_Work.den).1 : ByteArray).size ≤ 1048576 ∧ (e.2.1 : ByteArray).size ≤ 1048576
  bad : R.1 ≠ 0 → R = (R.1, [], [], [], ())
theorem goodR_bad (s : List T_Object.den) {c : Int} (hc : c ≠ 0) : GoodR s (c, [], [], [], ()) := ⟨fun h => absurd h hc, fun h => absurd h hc, by simp, by simp, by simp, by simp, fun _ => rfl⟩
theorem goodR_of {s s' : List T_Object.den} (ho : OkStore s') (he : Ext s s') {I : List T_Entry.den} (h1 : I.length ≤ 3) (h2 : ∀ e ∈ I, (e.1 : ByteArray).size ≤ 1048576 ∧ (e.2.2.2.1 : ByteArray).size ≤ 1048576) {W : List T_Work.den} (h3 : W.length ≤ 1) (h4 : ∀ e ∈ W, (e.1 : ByteArray).size ≤ 1048576 ∧ (e.2.1 : ByteArray).size ≤ 1048576) : GoodR s ((0 : Int), s', I, W, ()) :=
  ⟨fun _ => ho, fun _ => he, h1, h2, h3, h4, fun h => absurd rfl h⟩
theorem goodR_set {s : List T_Object.den} (ho : OkStore s) {f : T_File.den} (h : szF f) : GoodR s (setR s f) := by
  unfold setR
  split
  · exact goodR_of ho (Ext.rfl' s) (by simp) (by simp) (by simp) (by simp)
  · exact goodR_of ho (Ext.rfl' s) (by simp) (fun x hx => by rw [List.mem_singleton.1 hx]; exact h) (by simp) (by simp)
theorem goodR_cl {s s' : List T_Object.den} (ho : OkStore s') (he : Ext s s') {b o t : T_File.den} (hb : szF b) (hoz : szF o) (ht : szF t) {p x : ByteArray} (hp : p.size ≤ 1048576) (hx : x.size ≤ 1048576) : GoodR s (clR s' b o t p x) := by
  have l1 := one3_len b 1
  have l2 := one3_len o 2
  have l3 := one3_len t 3
  exact goodR_of ho he (by unfold stg3; simp only [List.length_append]; omega) (stg3_mem hb hoz ht) (by simp) (fun y hy => by rw [List.mem_singleton.1 hy]; exact ⟨hp, hx⟩)
section
variable {s : List T_Object.den} (ho : OkStore s) {p : ByteArray} {b o t : T_File.den} (hp : OneP p b o t)
include ho hp in
theorem both_good (zo : ¬ zeroF o) (zt : ¬ zeroF t) (h1 : (getO s 1 o.2.2.1).2 = true) (h2 : (getO s 1 t.2.2.1).2 = true) (zb : szF b) (zo' : szF o) (zt' : szF t) {R : T_TreesResult.den} (hR : spec_l11Both.s s b o t = some R) : GoodR s R := by
  have n1 := id_ne ho h1
  have n2 := id_ne ho h2
  obtain ⟨r, hr⟩ := merge_both (txO s b) (txO s o) (txO s t) (getO_tf ho _) (getO_tf ho _) (getO_tf ho _)
  obtain ⟨md, md', ok, m1, m2, m3, m4⟩ := mode_all ho (b := b) (o := o) (t := t)
  have hk := pick_s b o t
  have hpz : p.size ≤ 1048576 := by rw [← hp.po zo]; exact zo'.1
  have htx : ∀ f : T_File.den, (txO s f).size ≤ 1048576 := fun f => by have := tf_size (getO_tf ho f.2.2.1); unfold txO; omega
  have hout : ∀ xb x md id, x.size ≤ 1048576 → id.size ≤ 1048576 → GoodR s (outI s b o t p xb x md id) := fun xb x md id hx hid => by
    unfold outI
    split
    · exact goodR_cl ho (Ext.rfl' s) zb zo' zt' hpz hx
    · exact goodR_of ho (Ext.rfl' s) (by simp) (fun y hy => by rw [List.mem_singleton.1 hy]; exact ⟨zo'.1, hid⟩) (by simp) (by simp)
  have hms : GoodR s (mI s b o t p (!ok) md r) := by
    have hsz := hr.sz
    unfold mI
    split
    · exact goodR_cl ho (Ext.rfl' s) zb zo' zt' hpz (htx o)
    · split
      · exact goodR_cl ho (Ext.rfl' s) zb zo' zt' hpz (htx o)
      · split
        · exact goodR_cl ho (Ext.rfl' s) zb zo' zt' hpz (htx o)
        · split
          · rename_i c4
            split
            · exact goodR_cl ho (Ext.rfl' s) zb zo' zt' hpz (by omega)
            · split
              · rename_i c6
                have hok := putO_ok ho (k := 1) (by omega) (by omega) (hr.tf c4) c6
                have hid := putO_id s r.2.2.1 c6
                split
                · exact goodR_cl hok (ext_put c6) zb zo' zt' hpz (by omega)
                · exact goodR_of hok (ext_put c6) (by simp) (fun y hy => by rw [List.mem_singleton.1 hy]; exact ⟨zo'.1, by show (putO s 1 r.2.2.1).2.1.size ≤ _; rw [hid, idB_size]; omega⟩) (by simp) (by simp)
              · rename_i c6; exact goodR_bad s c6
          · exact goodR_cl ho (Ext.rfl' s) zb zo' zt' hpz (htx o)
  by_cases c1 : (o.2.2.1 : ByteArray) = t.2.2.1
  · rw [if_pos c1] at hk
    rw [spec_picked ho hp zo md ok _ m1 hk n1] at hR
    cases hR
    exact hout _ _ _ _ (htx o) zo'.2
  rw [if_neg c1] at hk
  by_cases c2 : zeroF b
  · rw [if_pos c2] at hk
    rw [spec_merged ho hp zo md ok m1 hk hr m4 h1 h2] at hR
    cases hR
    exact hms
  rw [if_neg c2] at hk
  by_cases c4 : (o.2.2.1 : ByteArray) = b.2.2.1
  · rw [if_pos c4] at hk
    rw [spec_picked ho hp zo md ok _ m1 hk n2] at hR
    cases hR
    exact hout _ _ _ _ (htx o) zt'.2
  rw [if_neg c4] at hk
  by_cases c3 : (t.2.2.1 : ByteArray) = b.2.2.1
  · rw [if_pos c3] at hk
    rw [spec_picked ho hp zo md ok _ m1 hk n1] at hR
    cases hR
    exact hout _ _ _ _ (htx o) zo'.2
  rw [if_neg c3] at hk
  rw [spec_merged ho hp zo md ok m1 hk hr m4 h1 h2] at hR
  cases hR
  exact hms
include ho hp in
theorem path_good (hb : ∀ f ∈ [b, o, t], ¬ zeroF f → (getO s 1 f.2.2.1).2 = true) (zb : szF b) (zo : szF o) (zt : szF t) {R : T_TreesResult.den} (hR : spec_l11Path.s s b o t = some R) : GoodR s R := by
  have htx : ∀ f : T_File.den, (txO s f).size ≤ 1048576 := fun f => by have := tf_size (getO_tf ho f.2.2.1); unfold txO; omega
  rw [spec_path ho hp] at hR
  split at hR
  · cases hR; exact goodR_set ho zt
  split at hR
  · rename_i h3
    have hk := kind3 ho hp h3
    exact both_good ho hp hk.1 hk.2 (hb o (by simp) hk.1) (hb t (by simp) hk.2) zb zo zt hR
  split at hR
  · rename_i h4
    have hk := kind4 ho hp h4
    cases hR
    refine goodR_cl ho (Ext.rfl' s) zb zo zt ?_ ?_
    · rcases hk with hk | hk
      · rw [← hp.po hk]; exact zo.1
      · rw [← hp.pt hk]; exact zt.1
    · split
      · exact htx t
      · exact htx o
  · cases hR; exact goodR_set ho zo
end
end Go.Proofs.YtmojilihllhadaaGreatDoor.Ev
