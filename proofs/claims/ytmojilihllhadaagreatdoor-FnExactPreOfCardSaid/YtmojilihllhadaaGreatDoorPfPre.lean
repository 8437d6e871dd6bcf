/- The text of a clash: both ways answer the same. -/
import Derived.Test.YtmojilihllhadaaGreatDoorPfStage
import Derived.Test.YtmojilihllhadaaGreatDoorPfBlobs
import Derived.Test.YtmojilihllhadaaGreatDoorPfNormalText
import Derived.Test.YtmojilihllhadaaGreatDoorPfCodeIf
set_option linter.unusedVariables false
set_option linter.unusedSimpArgs false
namespace Go.Proofs.YtmojilihllhadaaGreatDoor.Ev
open Go

/-! #### the reference -/
def txF (s : List T_Object.den) (f : T_File.den) : ByteArray := if zeroF f then noS else (getO s 1 f.2.2.1).1
theorem spec_tx (s : List T_Object.den) (hs : s.length ≤ 1048576) (f : T_File.den) : spec_l11Text.s s f = some (txF s f) := by
  have heq : spec_l11Text.s s f = if zeroF f then some noS else (spec_l5Get.s s 1 f.2.2.1).bind fun r0 => some r0.1 := spec_l11Text.e s f
  rw [heq, spec_get_s s hs]
  unfold txF
  split <;> rfl
def someL (l : List T_File.den) : List T_File.den := l.flatMap fun f => bif !decide (zeroF f) then [f] else []
theorem spec_some (l : List T_File.den) (hl : l.length ≤ 1048576) : spec_l11Some.s l = some (someL l) := by
  rw [spec_l11Some.e]
  have := row_flat0 (t := T_File) (L := fun i m => spec_l11Some_L3.s l m.length i m) (l := l) (g := fun f => bif !decide (zeroF f) then [f] else []) (fun x => one_len) (fun i hi m hm => by
    show spec_l11Some_L3.s l _ _ _ = spec_l11Some_L3.s l _ _ _
    conv => lhs; rw [spec_l11Some_L3.e]
    simp (disch := omega) only [if_pos, Int.toNat_natCast, nth_at hi, wrap_succ, fill1, List.length_append, List.length_cons, List.length_nil]
    by_cases h : zeroF l[i]
    · have h' : l[i].1 = noS ∧ l[i].2.1 = 0 ∧ l[i].2.2.1 = noS := h
      rw [if_pos h', decide_eq_true h]
      simp
    · have h' : ¬ (l[i].1 = noS ∧ l[i].2.1 = 0 ∧ l[i].2.2.1 = noS) := h
      rw [if_neg h', decide_eq_false h]; rfl)
  have h0 : spec_l11Some_L3.s l 0 0 [] = _ := this
  rw [h0]
  show spec_l11Some_L3.s l _ _ _ = _
  rw [spec_l11Some_L3.e, if_neg (by omega)]
  rfl
/-- three texts, none of them binary -/
noncomputable def three (x y z : ByteArray) : Option T_TextResult.den :=
  if isBin x = true then some ((1 : Int), noS, ()) else if isBin y = true then some ((1 : Int), noS, ()) else if isBin z = true then some ((1 : Int), noS, ()) else spec_NormalText.s x y z
theorem spec_three (s : List T_Object.den) (hs : s.length ≤ 1048576) (a b c : T_File.den) (vi : Int) (vs : ByteArray) (ha : (txF s a).size ≤ 4000000000) (hb : (txF s b).size ≤ 4000000000) (hc : (txF s c).size ≤ 4000000000) :
    spec_l13PreOf_L7.s s [a, b, c] 0 0 vi vs [] = three (txF s a) (txF s b) (txF s c) := by
  have w1 : IntKind.i64.wrap ((0 : Int) + 1) = 1 := by decide
  have w2 : IntKind.i64.wrap ((1 : Int) + 1) = 2 := by decide
  have w3 : IntKind.i64.wrap ((2 : Int) + 1) = 3 := by decide
  have n0 : nth T_File [a, b, c] (Int.toNat (0 : Int)) = a := rfl
  have n1 : nth T_File [a, b, c] (Int.toNat (1 : Int)) = b := rfl
  have n2 : nth T_File [a, b, c] (Int.toNat (2 : Int)) = c := rfl
  unfold three
  rw [spec_l13PreOf_L7.e, if_pos (by decide), if_pos (by simp), n0, spec_tx s hs, Option.bind_some, fill1, if_pos (by simp), if_pos (by simp)]
  have m0 : nth Ty.str ([] ++ [txF s a]) (Int.toNat (0 : Int)) = txF s a := rfl
  rw [m0, spec_bin _ ha, Option.bind_some]
  cases h1 : isBin (txF s a) with
  | true => rw [if_pos rfl, if_pos rfl]
  | false =>
    rw [if_neg (by simp), if_neg (by simp), w1, spec_l13PreOf_L7.e, if_pos (by decide), if_pos (by simp), n1, spec_tx s hs, Option.bind_some, fill1, if_pos (by simp), if_pos (by simp)]
    have m1 : nth Ty.str ([] ++ [txF s a] ++ [txF s b]) (Int.toNat (1 : Int)) = txF s b := rfl
    rw [m1, spec_bin _ hb, Option.bind_some]
    cases h2 : isBin (txF s b) with
    | true => rw [if_pos rfl, if_pos rfl]
    | false =>
      rw [if_neg (by simp), if_neg (by simp), w2, spec_l13PreOf_L7.e, if_pos (by decide), if_pos (by simp), n2, spec_tx s hs, Option.bind_some, fill1, if_pos (by simp), if_pos (by simp)]
      have m2 : nth Ty.str ([] ++ [txF s a] ++ [txF s b] ++ [txF s c]) (Int.toNat (2 : Int)) = txF s c := rfl
      rw [m2, spec_bin _ hc, Option.bind_some]
      cases h3 : isBin (txF s c) with
      | true => rw [if_pos rfl, if_pos rfl]
      | false =>
        rw [if_neg (by simp), if_neg (by simp), w3, spec_l13PreOf_L7.e, if_neg (by decide), if_pos (by simp), if_pos (by simp), if_pos (by simp)]
        have q0 : nth Ty.str ([] ++ [txF s a] ++ [txF s b] ++ [txF s c]) (Int.toNat (0 : Int)) = txF s a := rfl
        have q1 : nth Ty.str ([] ++ [txF s a] ++ [txF s b] ++ [txF s c]) (Int.toNat (1 : Int)) = txF s b := rfl
        rw [q0, q1, m2]
        cases spec_NormalText.s (txF s a) (txF s b) (txF s c) <;> rfl
/-- what the reference answers, told by three files -/
noncomputable def preS (s : List T_Object.den) (a b c : T_File.den) : Option T_TextResult.den :=
  if zeroF b then some ((4 : Int), noS, ()) else if zeroF c then some ((4 : Int), noS, ()) else
  if hasB s (someL [a, b, c]) = true then three (txF s a) (txF s b) (txF s c) else some ((4 : Int), noS, ())
theorem getO_size {s : List T_Object.den} (ho : OkStore s) (k : Int) (id : ByteArray) : (getO s k id).1.size ≤ 2000 := by
  unfold getO
  split
  · rename_i i hp
    split
    · have hi := plc_lt hp
      have := okObj (ho.obj _ (List.getElem_mem hi)).1
      rw [nth_at hi]
      exact tf_size this.2.2
    · exact Nat.zero_le _
  · exact Nat.zero_le _
theorem txF_size {s : List T_Object.den} (ho : OkStore s) (f : T_File.den) : (txF s f).size ≤ 2000 := by
  unfold txF
  split
  · exact Nat.zero_le _
  · exact getO_size ho _ _
theorem fill3 {β : Type} (x y z d : β) : fillElems [((0 : Nat), x), ((1 : Nat), y), ((2 : Nat), z)] (List.replicate (3 : Nat) d) = [x, y, z] := rfl
theorem spec_pre {s : List T_Object.den} (ho : OkStore s) (hs : s.length ≤ 1048576) (l : List T_Entry.den) (hl : l.length ≤ 1048576) (p : ByteArray) : spec_l13PreOf.s s l p = preS s (stF l p 1) (stF l p 2) (stF l p 3) := by
  rw [spec_l13PreOf.e, spec_st l hl, spec_st l hl, spec_st l hl]
  simp only [Option.bind_some]
  generalize stF l p 1 = a
  generalize stF l p 2 = b
  generalize stF l p 3 = c
  have h1 : fillElems [((0 : Nat), a.1, a.2.1, a.2.2.1, ()), ((1 : Nat), b.1, b.2.1, b.2.2.1, ()), ((2 : Nat), c.1, c.2.1, c.2.2.1, ())] (List.replicate (3 : Nat) (noS, (0 : Int), noS, ())) = [a, b, c] := rfl
  rw [h1]
  have e1 : nth T_Object [a, b, c] (Int.toNat (1 : Int)) = b := rfl
  have e2 : nth T_Object [a, b, c] (Int.toNat (2 : Int)) = c := rfl
  rw [e1, e2]
  unfold preS
  by_cases hb : zeroF b
  · rw [if_pos hb]
    simp only [zeroF] at hb
    rw [if_pos hb]
  · rw [if_neg hb]
    have hb' : ¬ (b.1 = noS ∧ b.2.1 = 0 ∧ b.2.2.1 = noS) := hb
    rw [if_neg hb']
    by_cases hc : zeroF c
    · rw [if_pos hc]
      simp only [zeroF] at hc
      rw [if_pos hc]
    · have hc' : ¬ (c.1 = noS ∧ c.2.1 = 0 ∧ c.2.2.1 = noS) := hc
      rw [if_neg hc, if_neg hc', spec_some [a, b, c] (by simp), Option.bind_some, spec_l11Blobs.e]
      have hsl : (someL [a, b, c]).length ≤ 3 := by
        unfold someL
        simp only [List.flatMap_cons, List.flatMap_nil, List.length_append, List.length_nil]
        have := one_len (c := !decide (zeroF a)) (x := a)
        have := one_len (c := !decide (zeroF b)) (x := b)
        have := one_len (c := !decide (zeroF c)) (x := c)
        omega
      have := spec_blobs_s s hs (someL [a, b, c]) (by omega) (someL [a, b, c]).length 0 (by omega)
      have h0 : spec_l11Blobs_L2.s s (someL [a, b, c]) 0 = _ := this
      rw [h0, Option.bind_some, List.drop_zero]
      have hh : ((someL [a, b, c]).all fun x => (getO s 1 x.2.2.1).2) = hasB s (someL [a, b, c]) := rfl
      rw [hh]
      have t1 := txF_size ho a
      have t2 := txF_size ho b
      have t3 := txF_size ho c
      cases hasB s (someL [a, b, c]) with
      | true => rw [if_pos rfl, if_pos rfl]; exact spec_three s hs a b c _ _ (by omega) (by omega) (by omega)
      | false => rw [if_neg (by simp), if_neg (by simp)]

/-! #### the program -/
structure PS where
  miss : Bool
  bin : Bool
  T : List ByteArray
  Hs : List Bool
def stp (s : List T_Object.den) (σ : PS) (e : T_Entry.den) : PS :=
  ⟨σ.miss || !(getO s 1 e.2.2.2.1).2, σ.bin || isBin (getO s 1 e.2.2.2.1).1, σ.T.set (stg e).toNat (getO s 1 e.2.2.2.1).1, σ.Hs.set (stg e).toNat true⟩
noncomputable def fin4 (σ : PS) : Option T_TextResult.den :=
  if nth .bool σ.Hs 2 = true ∧ nth .bool σ.Hs 3 = true ∧ σ.miss = false then (if σ.bin = true then some ((1 : Int), noS, ()) else impl_NormalText.s (nth .str σ.T 1) (nth .str σ.T 2) (nth .str σ.T 3)) else some ((4 : Int), noS, ())
theorem impl_pre_end (s : List T_Object.den) (p : ByteArray) (l : List T_Entry.den) (σ : PS) (vi : Int) (vs : ByteArray) : impl_preOf_L3.s s p σ.miss σ.bin l l.length l.length vi vs σ.T σ.Hs = fin4 σ := by
  have c2 : ∀ a b : Int, impl_firstCode.s (fillElems [((0 : Nat), a), ((1 : Nat), b)] (List.replicate (2 : Nat) (0 : Int))) = some (if a = 0 then b else a) := firstCode2_s
  rw [impl_preOf_L3.e, if_neg (by omega)]
  unfold fin4
  have e2 : nth Ty.bool σ.Hs (Int.toNat (2 : Int)) = nth Ty.bool σ.Hs 2 := rfl
  have e3 : nth Ty.bool σ.Hs (Int.toNat (3 : Int)) = nth Ty.bool σ.Hs 3 := rfl
  have t1 : nth Ty.str σ.T (Int.toNat (1 : Int)) = nth Ty.str σ.T 1 := rfl
  have t2 : nth Ty.str σ.T (Int.toNat (2 : Int)) = nth Ty.str σ.T 2 := rfl
  have t3 : nth Ty.str σ.T (Int.toNat (3 : Int)) = nth Ty.str σ.T 3 := rfl
  simp only [e2, e3, t1, t2, t3, codeIf_s, c2, Option.bind_some]
  cases nth Ty.bool σ.Hs 2 <;> cases nth Ty.bool σ.Hs 3 <;> cases σ.miss <;> cases σ.bin <;> simp
theorem impl_pre_loop {s : List T_Object.den} (ho : OkStore s) (p : ByteArray) (l : List T_Entry.den) (hl : l.length ≤ 1048576) (hst : ∀ j (h : j < l.length), 0 ≤ stg l[j] ∧ stg l[j] ≤ 3) (vi : Int) (vs : ByteArray) : ∀ (k i : Nat) (σ : PS), i + k = l.length →
    impl_preOf_L3.s s p σ.miss σ.bin l l.length i vi vs σ.T σ.Hs = fin4 ((ofP (l.drop i) p).foldl (stp s) σ)
  | 0, i, σ, h => by
    have hi : i = l.length := by omega
    subst hi
    rw [List.drop_length, impl_pre_end]; rfl
  | k + 1, i, σ, h => by
    have hi : i < l.length := by omega
    have hs := hst i hi
    have hst4 : (0 : Int) ≤ stg l[i] ∧ stg l[i] < ((4 : Nat) : Int) := by omega
    by_cases hp : l[i].1 = p
    · have hd : ofP (l.drop i) p = l[i] :: ofP (l.drop (i + 1)) p := by
        rw [List.drop_eq_getElem_cons hi]
        unfold ofP
        rw [List.filter_cons, if_pos (decide_eq_true hp)]
      rw [hd, List.foldl_cons, ← impl_pre_loop ho p l hl hst vi vs k (i + 1) (stp s σ l[i]) (by omega)]
      conv => lhs; rw [impl_preOf_L3.e]
      simp (disch := omega) only [if_pos, Int.toNat_natCast, nth_at hi, wrap_succ]
      simp only [hp, if_true, impl_get_s ho, Option.bind_some, impl_bin]
      unfold stp
      cases σ.miss <;> cases σ.bin <;> simp
    · have hd : ofP (l.drop i) p = ofP (l.drop (i + 1)) p := by
        rw [List.drop_eq_getElem_cons hi]
        unfold ofP
        rw [List.filter_cons, if_neg (by rw [decide_eq_false hp]; simp)]
      rw [hd, ← impl_pre_loop ho p l hl hst vi vs k (i + 1) σ (by omega)]
      conv => lhs; rw [impl_preOf_L3.e]
      simp (disch := omega) only [if_pos, Int.toNat_natCast, nth_at hi, wrap_succ]
      rw [if_neg hp]
end Go.Proofs.YtmojilihllhadaaGreatDoor.Ev
