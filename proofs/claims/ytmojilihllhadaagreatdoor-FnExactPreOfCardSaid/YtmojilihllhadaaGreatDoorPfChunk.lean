/- Chunks: both ways the same. -/
import Derived.Test.YtmojilihllhadaaGreatDoorPfMatch
set_option linter.unusedVariables false
set_option linter.unusedSimpArgs false
namespace Go.Proofs.YtmojilihllhadaaGreatDoor.Ev
open Go

theorem wrap_add {a b : Nat} (h : a + b < 4611686018427387904) : IntKind.i64.wrap ((a : Int) + (b : Int)) = ((a + b : Nat) : Int) := by rw [wrap_id (by omega) (by omega)]; omega
theorem wrap_sub {a b : Nat} (h : b ≤ a) (h2 : a < 4611686018427387904) : IntKind.i64.wrap ((a : Int) - (b : Int)) = ((a - b : Nat) : Int) := by rw [wrap_id (by omega) (by omega)]; omega

/-! #### lists compared -/
theorem spec_same_loop (a b : List ByteArray) (hl : a.length = b.length) (ha : a.length ≤ 50000) : ∀ (k i : Nat), i + k = a.length → spec_SameLines_L4.s a b i = some (decide (a.drop i = b.drop i))
  | 0, i, h => by
    rw [spec_SameLines_L4.e, if_neg (by omega), List.drop_eq_nil_of_le (by omega), List.drop_eq_nil_of_le (by omega)]; rfl
  | k + 1, i, h => by
    have h1 : i < a.length := by omega
    have h2 : i < b.length := by omega
    rw [spec_SameLines_L4.e, if_pos (by omega), if_pos (by omega), if_pos (by omega), Int.toNat_natCast, nthS h1, nthS h2, wrap_succ (by omega), spec_same_loop a b hl ha k (i + 1) (by omega), List.drop_eq_getElem_cons h1, List.drop_eq_getElem_cons h2]
    by_cases e : a[i] = b[i]
    · rw [if_pos e]
      congr 1
      rw [decide_eq_decide]
      exact ⟨fun h => by rw [e, h], fun h => (List.cons.inj h).2⟩
    · rw [if_neg e]
      congr 1
      symm
      rw [decide_eq_false_iff_not]
      exact fun h => e (List.cons.inj h).1
theorem spec_same (a b : List ByteArray) (ha : a.length ≤ 50000) (hb : b.length ≤ 50000) : spec_SameLines.s a b = some (decide (a = b)) := by
  rw [spec_SameLines.e]
  by_cases h : a.length = b.length
  · rw [if_pos (by omega)]
    exact spec_same_loop a b h ha a.length 0 (by omega)
  · rw [if_neg (by omega), decide_eq_false fun e => h (by rw [e])]
theorem impl_same_loop (a b : List ByteArray) (hl : a.length = b.length) (ha : a.length ≤ 50000) : ∀ (k i : Nat), i + k = a.length → slices_Equal___string_string__L4.s a b a.length i = some (decide (a.drop i = b.drop i))
  | 0, i, h => by
    rw [slices_Equal___string_string__L4.e, if_neg (by omega), List.drop_eq_nil_of_le (by omega), List.drop_eq_nil_of_le (by omega)]; rfl
  | k + 1, i, h => by
    have h1 : i < a.length := by omega
    have h2 : i < b.length := by omega
    rw [slices_Equal___string_string__L4.e, if_pos (by omega), if_pos (by omega), if_pos (by omega), Int.toNat_natCast, nthS h1, nthS h2, wrap_succ (by omega), impl_same_loop a b hl ha k (i + 1) (by omega), List.drop_eq_getElem_cons h1, List.drop_eq_getElem_cons h2]
    by_cases e : a[i] = b[i]
    · rw [if_pos e]
      congr 1
      rw [decide_eq_decide]
      exact ⟨fun h => by rw [e, h], fun h => (List.cons.inj h).2⟩
    · rw [if_neg e]
      congr 1
      symm
      rw [decide_eq_false_iff_not]
      exact fun h => e (List.cons.inj h).1
theorem impl_same (a b : List ByteArray) (ha : a.length ≤ 50000) (hb : b.length ≤ 50000) : slices_Equal___string_string_.s a b = some (decide (a = b)) := by
  rw [slices_Equal___string_string_.e]
  by_cases h : a.length = b.length
  · rw [if_pos (by omega)]
    exact impl_same_loop a b h ha a.length 0 (by omega)
  · rw [if_neg (by omega), decide_eq_false fun e => h (by rw [e])]
theorem spec_copy (a : List ByteArray) (ha : a.length ≤ 50000) : spec_l4Copy.s a = some a := by rw [spec_l4Copy.e, if_pos (by omega)]; rfl
theorem impl_clone (a : List ByteArray) (ha : a.length ≤ 50000) : slices_Clone___string_string_.s a = some a := by
  rw [slices_Clone___string_string_.e]
  by_cases h : a.length = 0
  · have h' := List.length_eq_zero_iff.1 h
    subst h'
    rw [if_pos h]
    unfold joinO
    rw [if_pos (by rfl)]
  · rw [if_neg h, if_pos (by omega)]; rfl

/-! #### chunks -/
def kd (bs os ts : List ByteArray) : Int := if bs = os then (if bs = ts then 0 else 2) else if bs = ts then 1 else if os = ts then 3 else 4
theorem spec_kd (bs os ts : List ByteArray) (h1 : bs.length ≤ 50000) (h2 : os.length ≤ 50000) (h3 : ts.length ≤ 50000) : spec_l4Kind.s bs os ts = some (kd bs os ts) := by
  rw [spec_l4Kind.e, spec_same bs os h1 h2, spec_same bs ts h1 h3, spec_same os ts h2 h3]
  simp only [Option.bind_some, decide_eq_true_eq]
  unfold kd
  by_cases a : bs = os <;> by_cases b : bs = ts <;> by_cases c : os = ts <;> simp [a, b, c] <;> simp_all
theorem impl_kd (bs os ts : List ByteArray) (h1 : bs.length ≤ 50000) (h2 : os.length ≤ 50000) (h3 : ts.length ≤ 50000) : impl_kindOf.s bs os ts = some (kd bs os ts) := by
  rw [impl_kindOf.e, impl_same bs os h1 h2, impl_same bs ts h1 h3, impl_same os ts h2 h3]
  simp only [Option.bind_some, decide_eq_true_eq]
  unfold kd
  by_cases a : bs = os <;> by_cases b : bs = ts <;> by_cases c : os = ts <;> simp [a, b, c] <;> simp_all
def ck (bs os ts : List ByteArray) : T_Chunk.den := (kd bs os ts, bs, os, ts, ())
def putC (out : List T_Chunk.den) (bs os ts : List ByteArray) : List T_Chunk.den := if bs.length + os.length + ts.length = 0 then out else out ++ [ck bs os ts]
theorem wrap3 {a b c : Nat} (h : a + b + c < 4611686018427387904) : IntKind.i64.wrap (IntKind.i64.wrap ((a : Int) + (b : Int)) + (c : Int)) = ((a + b + c : Nat) : Int) := by rw [wrap_add (by omega), wrap_add (by omega)]
theorem spec_put (out : List T_Chunk.den) (bs os ts : List ByteArray) (h1 : bs.length ≤ 50000) (h2 : os.length ≤ 50000) (h3 : ts.length ≤ 50000) (ho : out.length ≤ 4000000000) : spec_l4Put.s out bs os ts = some (putC out bs os ts) := by
  rw [spec_l4Put.e, wrap3 (by omega)]
  unfold putC
  by_cases h : bs.length + os.length + ts.length = 0
  · rw [if_pos (by omega), if_pos h]
  · rw [if_neg (by omega), if_neg h, spec_kd bs os ts h1 h2 h3, spec_copy bs h1, spec_copy os h2, spec_copy ts h3]
    simp only [Option.bind_some]
    rw [if_pos (by rw [fill1]; simp; omega), fill1]
    rfl
theorem impl_ck (bs os ts : List ByteArray) (h1 : bs.length ≤ 50000) (h2 : os.length ≤ 50000) (h3 : ts.length ≤ 50000) : impl_chunkOf.s bs os ts = some (ck bs os ts) := by
  rw [impl_chunkOf.e, impl_kd bs os ts h1 h2 h3, impl_clone bs h1, impl_clone os h2, impl_clone ts h3]
  rfl
theorem putC_len (out : List T_Chunk.den) (bs os ts : List ByteArray) : (putC out bs os ts).length ≤ out.length + 1 := by
  unfold putC
  split
  · omega
  · simp
def sub_ (l : List ByteArray) (i j : Nat) : List ByteArray := (l.take j).drop i
theorem sub_len (l : List ByteArray) (i j : Nat) : (sub_ l i j).length ≤ l.length := by unfold sub_; simp; omega
def tot (l : List ByteArray) : Nat := (l.map ByteArray.size).sum
theorem tot_take : ∀ (l : List ByteArray) (j : Nat), tot (l.take j) ≤ tot l
  | [], j => by simp [tot]
  | x :: r, 0 => by simp [tot]
  | x :: r, j + 1 => by
    have := tot_take r j
    simp only [tot, List.take_succ_cons, List.map_cons, List.sum_cons] at this ⊢
    omega
theorem tot_drop : ∀ (l : List ByteArray) (j : Nat), tot (l.drop j) ≤ tot l
  | [], j => by simp [tot]
  | x :: r, 0 => by simp [tot]
  | x :: r, j + 1 => by
    have := tot_drop r j
    simp only [tot, List.drop_succ_cons, List.map_cons, List.sum_cons] at this ⊢
    omega
theorem tot_sub (l : List ByteArray) (i j : Nat) : tot (sub_ l i j) ≤ tot l := Nat.le_trans (tot_drop _ i) (tot_take l j)
/-- a chunk of no more than is there -/
structure SmallC (nb : Nat) (c : T_Chunk.den) : Prop where
  b1 : tot c.2.1 ≤ nb
  o1 : tot c.2.2.1 ≤ nb
  t1 : tot c.2.2.2.1 ≤ nb
  b2 : (c.2.1 : List ByteArray).length ≤ 50000
  o2 : (c.2.2.1 : List ByteArray).length ≤ 50000
  t2 : (c.2.2.2.1 : List ByteArray).length ≤ 50000

section
variable (base ours theirs : List ByteArray)
/-- partners -/
def pA (q : Nat) : Int := pfn (prs base ours) q
def pA' : List Int := part base.length (prs base ours)
def oneL : List Int := pA' base ours ++ [(ours.length : Int)]
theorem pA'_at {q : Nat} (h : q < base.length) : nth (Ty.int IntKind.i64) (pA' base ours) q = pA base ours q := part_at (prs_inc base ours) h
theorem pA'_len : (pA' base ours).length = base.length := part_len _ _
theorem oneL_len : (oneL base ours).length = base.length + 1 := by unfold oneL; simp [pA'_len]
theorem oneL_at {q : Nat} (h : q < base.length) : nth (Ty.int IntKind.i64) (oneL base ours) q = pA base ours q := by
  rw [← pA'_at base ours h, nthI (by rw [oneL_len]; omega), nthI (by rw [pA'_len]; exact h)]
  unfold oneL
  rw [List.getElem_append_left]
theorem oneL_end : nth (Ty.int IntKind.i64) (oneL base ours) base.length = (ours.length : Int) := by
  rw [nthI (by rw [oneL_len]; omega)]
  unfold oneL
  rw [List.getElem_append_right (by rw [pA'_len]; omega)]
  simp [pA'_len]
theorem pA_rng (q : Nat) : pA base ours q = -1 ∨ (q < base.length ∧ 0 ≤ pA base ours q ∧ pA base ours q < ours.length) := by
  rcases pfn_rng (prs_inc base ours) q with h | ⟨_, h1, h2, h3⟩
  · exact .inl h
  · exact .inr ⟨h1, by unfold pA; omega, h3⟩
theorem pA_inc (q q' : Nat) (h : q < q') (h1 : 0 ≤ pA base ours q) (h2 : 0 ≤ pA base ours q') : pA base ours q < pA base ours q' := pfn_inc (prs_inc base ours) q q' h h1 h2

/-- the state at which the next line with partners is sought -/
structure Seek (nb i j k : Nat) (out : List T_Chunk.den) : Prop where
  hi : i ≤ base.length
  hj : j ≤ ours.length
  hk : k ≤ theirs.length
  ja : ∀ q, i ≤ q → 0 ≤ pA base ours q → (j : Int) ≤ pA base ours q
  ka : ∀ q, i ≤ q → 0 ≤ pA base theirs q → (k : Int) ≤ pA base theirs q
  len : out.length ≤ 2 * i
  small : ∀ c ∈ out, SmallC nb c
def Res (nb : Nat) (x y : Option (List T_Chunk.den)) : Prop := ∃ r, x = some r ∧ y = some r ∧ r.length ≤ 200000 ∧ ∀ c ∈ r, SmallC nb c
end
theorem putC_small {nb : Nat} {out : List T_Chunk.den} {bs os ts : List ByteArray} (h : ∀ c ∈ out, SmallC nb c) (hc : SmallC nb (ck bs os ts)) : ∀ c ∈ putC out bs os ts, SmallC nb c := by
  intro c hm
  unfold putC at hm
  split at hm
  · exact h c hm
  · rcases List.mem_append.1 hm with hm | hm
    · exact h c hm
    · rw [List.mem_singleton.1 hm]; exact hc
theorem sub_small {nb : Nat} {base ours theirs : List ByteArray} (h1 : tot base ≤ nb) (h2 : tot ours ≤ nb) (h3 : tot theirs ≤ nb) (l1 : base.length ≤ 50000) (l2 : ours.length ≤ 50000) (l3 : theirs.length ≤ 50000) (a b c d e f : Nat) :
    SmallC nb (ck (sub_ base a b) (sub_ ours c d) (sub_ theirs e f)) :=
  ⟨Nat.le_trans (tot_sub _ _ _) h1, Nat.le_trans (tot_sub _ _ _) h2, Nat.le_trans (tot_sub _ _ _) h3, Nat.le_trans (sub_len _ _ _) l1, Nat.le_trans (sub_len _ _ _) l2, Nat.le_trans (sub_len _ _ _) l3⟩
/-- the program's way to put a chunk -/
theorem impl_add {β : Type} (out : List T_Chunk.den) (bs os ts : List ByteArray) (ho : out.length ≤ 4000000000) (h1 : bs.length ≤ 50000) (h2 : os.length ≤ 50000) (h3 : ts.length ≤ 50000) (K : Nat → List T_Chunk.den → Option β) (K0 : Option β) (hK : K0 = K out.length out) :
    (if (IntKind.i64.wrap (IntKind.i64.wrap ((↑(List.length (ck bs os ts).snd.fst) : Int) + (↑(List.length (ck bs os ts).snd.snd.fst) : Int)) + (↑(List.length (ck bs os ts).snd.snd.snd.fst) : Int)) > (0 : Int)) then
      if (out.length + (fillElems [((0 : Nat), (ck bs os ts).fst, (ck bs os ts).snd.fst, (ck bs os ts).snd.snd.fst, (ck bs os ts).snd.snd.snd.fst, ())] (List.replicate (1 : Nat) ((0 : Int), ([] : List ByteArray), ([] : List ByteArray), ([] : List ByteArray), ()))).length < (4294967296 : Nat)) then
        K (out ++ fillElems [((0 : Nat), (ck bs os ts).fst, (ck bs os ts).snd.fst, (ck bs os ts).snd.snd.fst, (ck bs os ts).snd.snd.snd.fst, ())] (List.replicate (1 : Nat) ((0 : Int), ([] : List ByteArray), ([] : List ByteArray), ([] : List ByteArray), ()))).length (out ++ fillElems [((0 : Nat), (ck bs os ts).fst, (ck bs os ts).snd.fst, (ck bs os ts).snd.snd.fst, (ck bs os ts).snd.snd.snd.fst, ())] (List.replicate (1 : Nat) ((0 : Int), ([] : List ByteArray), ([] : List ByteArray), ([] : List ByteArray), ()))) else none else K0) = K (putC out bs os ts).length (putC out bs os ts) := by
  have hw : IntKind.i64.wrap (IntKind.i64.wrap ((↑(List.length (ck bs os ts).snd.fst) : Int) + (↑(List.length (ck bs os ts).snd.snd.fst) : Int)) + (↑(List.length (ck bs os ts).snd.snd.snd.fst) : Int)) = ((bs.length + os.length + ts.length : Nat) : Int) := wrap3 (a := bs.length) (b := os.length) (c := ts.length) (by omega)
  have hf : fillElems [((0 : Nat), (ck bs os ts).fst, (ck bs os ts).snd.fst, (ck bs os ts).snd.snd.fst, (ck bs os ts).snd.snd.snd.fst, ())] (List.replicate (1 : Nat) ((0 : Int), ([] : List ByteArray), ([] : List ByteArray), ([] : List ByteArray), ())) = [ck bs os ts] := rfl
  rw [hw, hf]
  unfold putC
  by_cases h : bs.length + os.length + ts.length = 0
  · rw [if_neg (by omega), if_pos h, hK]
  · rw [if_pos (by omega), if_neg h, if_pos (by simp; omega)]
end Go.Proofs.YtmojilihllhadaaGreatDoor.Ev
