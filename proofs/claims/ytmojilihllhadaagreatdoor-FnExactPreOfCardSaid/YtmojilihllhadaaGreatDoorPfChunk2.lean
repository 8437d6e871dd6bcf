/- Chunks: the two walks side by side. -/
import Derived.Test.YtmojilihllhadaaGreatDoorPfChunk
set_option linter.unusedVariables false
set_option linter.unusedSimpArgs false
namespace Go.Proofs.YtmojilihllhadaaGreatDoor.Ev
open Go

section
variable {nb : Nat} {base ours theirs : List ByteArray}

/-- the specification's run of same lines comes to its end -/
theorem spec_run_exit (l1 : base.length ≤ 50000) (l2 : ours.length ≤ 50000) (l3 : theirs.length ≤ 50000) (p u v n : Nat) (out : List T_Chunk.den) (hp : p + n ≤ base.length) (hu : u + n ≤ ours.length) (hv : v + n ≤ theirs.length) (ho : out.length ≤ 200000)
    (hc : ¬ (p + n < base.length ∧ pA base ours (p + n) = ((u + n : Nat) : Int) ∧ pA base theirs (p + n) = ((v + n : Nat) : Int))) :
    spec_l4Chunks_L9.s base ours theirs (pA' base ours) (pA' base theirs) out.length p u v base.length n out =
      spec_l4Chunks_L16.s base ours theirs (pA' base ours) (pA' base theirs) (putC out (sub_ base p (p + n)) (sub_ ours u (u + n)) (sub_ theirs v (v + n))).length ((p + n : Nat) : Int) ((u + n : Nat) : Int) ((v + n : Nat) : Int) base.length ((p + n : Nat) : Int) (putC out (sub_ base p (p + n)) (sub_ ours u (u + n)) (sub_ theirs v (v + n))) := by
  have q1 : 0 ≤ ((p + n : Nat) : Int) ∧ ((p + n : Nat) : Int) ≤ (base.length : Int) := by omega
  have q2 : 0 ≤ ((p : Nat) : Int) ∧ ((p : Nat) : Int) ≤ ((p + n : Nat) : Int) := by omega
  have q3 : 0 ≤ ((u + n : Nat) : Int) ∧ ((u + n : Nat) : Int) ≤ (ours.length : Int) := by omega
  have q4 : 0 ≤ ((u : Nat) : Int) ∧ ((u : Nat) : Int) ≤ ((u + n : Nat) : Int) := by omega
  have q5 : 0 ≤ ((v + n : Nat) : Int) ∧ ((v + n : Nat) : Int) ≤ (theirs.length : Int) := by omega
  have q6 : 0 ≤ ((v : Nat) : Int) ∧ ((v : Nat) : Int) ≤ ((v + n : Nat) : Int) := by omega
  have s1 := sub_len base p (p + n)
  have s2 := sub_len ours u (u + n)
  have s3 := sub_len theirs v (v + n)
  have hput : spec_l4Put.s out (List.drop p (List.take (p + n) base)) (List.drop u (List.take (u + n) ours)) (List.drop v (List.take (v + n) theirs)) = some (putC out (sub_ base p (p + n)) (sub_ ours u (u + n)) (sub_ theirs v (v + n))) :=
    spec_put out (sub_ base p (p + n)) (sub_ ours u (u + n)) (sub_ theirs v (v + n)) (by omega) (by omega) (by omega) (by omega)
  rw [spec_l4Chunks_L9.e]
  simp only [wrap_add (show p + n < 4611686018427387904 by omega), wrap_add (show u + n < 4611686018427387904 by omega), wrap_add (show v + n < 4611686018427387904 by omega), Int.toNat_natCast, pA'_len]
  by_cases h1 : p + n < base.length
  · have c1 : ((p + n : Nat) : Int) < (base.length : Int) := by omega
    have c2 : 0 ≤ ((p + n : Nat) : Int) ∧ ((p + n : Nat) : Int) < (base.length : Int) := by omega
    rw [if_pos c1, if_pos c2, pA'_at base ours h1]
    by_cases h2 : pA base ours (p + n) = ((u + n : Nat) : Int)
    · rw [if_pos h2, if_pos c2, pA'_at base theirs h1, if_neg (fun h3 => hc ⟨h1, h2, h3⟩)]
      rw [if_pos q1, if_pos q2, if_pos q3, if_pos q4, if_pos q5, if_pos q6, hput, Option.bind_some]
    · rw [if_neg h2]
      rw [if_pos q1, if_pos q2, if_pos q3, if_pos q4, if_pos q5, if_pos q6, hput, Option.bind_some]
  · have c1 : ¬ ((p + n : Nat) : Int) < (base.length : Int) := by omega
    rw [if_neg c1]
    rw [if_pos q1, if_pos q2, if_pos q3, if_pos q4, if_pos q5, if_pos q6, hput, Option.bind_some]
theorem spec_run_step (l1 : base.length ≤ 50000) (p u v n : Nat) (out : List T_Chunk.den) (hub : u + n ≤ 50000) (hvb : v + n ≤ 50000)
    (hc : p + n < base.length ∧ pA base ours (p + n) = ((u + n : Nat) : Int) ∧ pA base theirs (p + n) = ((v + n : Nat) : Int)) :
    spec_l4Chunks_L9.s base ours theirs (pA' base ours) (pA' base theirs) out.length p u v base.length n out =
      spec_l4Chunks_L9.s base ours theirs (pA' base ours) (pA' base theirs) out.length p u v base.length ((n + 1 : Nat) : Int) out := by
  obtain ⟨h1, h2, h3⟩ := hc
  have c1 : ((p + n : Nat) : Int) < (base.length : Int) := by omega
  have c2 : 0 ≤ ((p + n : Nat) : Int) ∧ ((p + n : Nat) : Int) < (base.length : Int) := by omega
  conv => lhs; rw [spec_l4Chunks_L9.e]
  simp only [wrap_add (show p + n < 4611686018427387904 by omega), wrap_add (show u + n < 4611686018427387904 by omega), wrap_add (show v + n < 4611686018427387904 by omega), Int.toNat_natCast, pA'_len]
  rw [if_pos c1, if_pos c2, pA'_at base ours h1, if_pos h2, if_pos c2, pA'_at base theirs h1, if_pos h3, wrap_succ (by omega)]
/-- the program's run of same lines comes to its end -/
theorem impl_run_exit (l1 : base.length ≤ 50000) (l2 : ours.length ≤ 50000) (l3 : theirs.length ≤ 50000) (p u v n : Nat) (out : List T_Chunk.den) (hp : p + n ≤ base.length) (hu : u + n ≤ ours.length) (hv : v + n ≤ theirs.length) (ho : out.length ≤ 200000)
    (hc : ¬ (p + n < base.length ∧ pA base ours (p + n) = ((u + n : Nat) : Int) ∧ pA base theirs (p + n) = ((v + n : Nat) : Int))) :
    impl_chunksOf_L12.s base ours theirs (oneL base ours).length (oneL base theirs).length p u v ((p + n : Nat) : Int) (oneL base ours) (oneL base theirs) out.length out =
      if n = 0 then some (putC out (sub_ base p (p + n)) (sub_ ours u (u + n)) (sub_ theirs v (v + n))) else
      impl_chunksOf_L7.s base ours theirs (oneL base ours).length (oneL base theirs).length ((p + n : Nat) : Int) ((u + n : Nat) : Int) ((v + n : Nat) : Int) ((p + n : Nat) : Int) (oneL base ours) (oneL base theirs) (putC out (sub_ base p (p + n)) (sub_ ours u (u + n)) (sub_ theirs v (v + n))).length (putC out (sub_ base p (p + n)) (sub_ ours u (u + n)) (sub_ theirs v (v + n))) := by
  have q1 : 0 ≤ ((p + n : Nat) : Int) ∧ ((p + n : Nat) : Int) ≤ (base.length : Int) := by omega
  have q2 : 0 ≤ ((p : Nat) : Int) ∧ ((p : Nat) : Int) ≤ ((p + n : Nat) : Int) := by omega
  have q3 : 0 ≤ ((u + n : Nat) : Int) ∧ ((u + n : Nat) : Int) ≤ (ours.length : Int) := by omega
  have q4 : 0 ≤ ((u : Nat) : Int) ∧ ((u : Nat) : Int) ≤ ((u + n : Nat) : Int) := by omega
  have q5 : 0 ≤ ((v + n : Nat) : Int) ∧ ((v + n : Nat) : Int) ≤ (theirs.length : Int) := by omega
  have q6 : 0 ≤ ((v : Nat) : Int) ∧ ((v : Nat) : Int) ≤ ((v + n : Nat) : Int) := by omega
  have s1 := sub_len base p (p + n)
  have s2 := sub_len ours u (u + n)
  have s3 := sub_len theirs v (v + n)
  have hck : impl_chunkOf.s (List.drop p (List.take (p + n) base)) (List.drop u (List.take (u + n) ours)) (List.drop v (List.take (v + n) theirs)) = some (ck (sub_ base p (p + n)) (sub_ ours u (u + n)) (sub_ theirs v (v + n))) :=
    impl_ck (sub_ base p (p + n)) (sub_ ours u (u + n)) (sub_ theirs v (v + n)) (by omega) (by omega) (by omega)
  have w0 : IntKind.i64.wrap (((p + n : Nat) : Int) - (p : Int)) = ((n : Nat) : Int) := by rw [wrap_sub (by omega) (by omega)]; congr 1; omega
  have w1 : IntKind.i64.wrap (IntKind.i64.wrap ((u : Int) + ((p + n : Nat) : Int)) - (p : Int)) = ((u + n : Nat) : Int) := by rw [wrap_add (by omega), wrap_sub (by omega) (by omega)]; congr 1; omega
  have w2 : IntKind.i64.wrap (IntKind.i64.wrap ((v : Int) + ((p + n : Nat) : Int)) - (p : Int)) = ((v + n : Nat) : Int) := by rw [wrap_add (by omega), wrap_sub (by omega) (by omega)]; congr 1; omega
  have hfin := impl_add out (sub_ base p (p + n)) (sub_ ours u (u + n)) (sub_ theirs v (v + n)) (by omega) (by omega) (by omega) (by omega)
    (fun N out' => if ((n : Nat) : Int) = (0 : Int) then some out' else impl_chunksOf_L7.s base ours theirs (oneL base ours).length (oneL base theirs).length ((p + n : Nat) : Int) ((u + n : Nat) : Int) ((v + n : Nat) : Int) ((p + n : Nat) : Int) (oneL base ours) (oneL base theirs) N out') _ rfl
  have hz : (((n : Nat) : Int) = (0 : Int)) = (n = 0) := by rw [eq_iff_iff]; omega
  simp only [hz] at hfin
  rw [impl_chunksOf_L12.e]
  simp only [w0, w1, w2, wrap_add (show u + n < 4611686018427387904 by omega), wrap_add (show v + n < 4611686018427387904 by omega), Int.toNat_natCast, oneL_len, hz] at hfin ⊢
  by_cases h1 : p + n < base.length
  · have c1 : ((p + n : Nat) : Int) < (base.length : Int) := by omega
    have c2 : 0 ≤ ((p + n : Nat) : Int) ∧ ((p + n : Nat) : Int) < ((base.length + 1 : Nat) : Int) := by omega
    rw [if_pos c1, if_pos c2, oneL_at base ours h1]
    by_cases h2 : pA base ours (p + n) = ((u + n : Nat) : Int)
    · rw [if_pos h2, if_pos c2, oneL_at base theirs h1, if_neg (fun h3 => hc ⟨h1, h2, h3⟩)]
      rw [if_pos q1, if_pos q2, if_pos q3, if_pos q4, if_pos q5, if_pos q6, hck, Option.bind_some]
      exact hfin
    · rw [if_neg h2]
      rw [if_pos q1, if_pos q2, if_pos q3, if_pos q4, if_pos q5, if_pos q6, hck, Option.bind_some]
      exact hfin
  · have c1 : ¬ ((p + n : Nat) : Int) < (base.length : Int) := by omega
    rw [if_neg c1]
    rw [if_pos q1, if_pos q2, if_pos q3, if_pos q4, if_pos q5, if_pos q6, hck, Option.bind_some]
    exact hfin
theorem impl_run_step (l1 : base.length ≤ 50000) (p u v n : Nat) (out : List T_Chunk.den) (hub : u + n ≤ 50000) (hvb : v + n ≤ 50000)
    (hc : p + n < base.length ∧ pA base ours (p + n) = ((u + n : Nat) : Int) ∧ pA base theirs (p + n) = ((v + n : Nat) : Int)) :
    impl_chunksOf_L12.s base ours theirs (oneL base ours).length (oneL base theirs).length p u v ((p + n : Nat) : Int) (oneL base ours) (oneL base theirs) out.length out =
    impl_chunksOf_L12.s base ours theirs (oneL base ours).length (oneL base theirs).length p u v ((p + n + 1 : Nat) : Int) (oneL base ours) (oneL base theirs) out.length out := by
  obtain ⟨h1, h2, h3⟩ := hc
  have c1 : ((p + n : Nat) : Int) < (base.length : Int) := by omega
  have c2 : 0 ≤ ((p + n : Nat) : Int) ∧ ((p + n : Nat) : Int) < ((base.length + 1 : Nat) : Int) := by omega
  have w1 : IntKind.i64.wrap (IntKind.i64.wrap ((u : Int) + ((p + n : Nat) : Int)) - (p : Int)) = ((u + n : Nat) : Int) := by rw [wrap_add (by omega), wrap_sub (by omega) (by omega)]; congr 1; omega
  have w2 : IntKind.i64.wrap (IntKind.i64.wrap ((v : Int) + ((p + n : Nat) : Int)) - (p : Int)) = ((v + n : Nat) : Int) := by rw [wrap_add (by omega), wrap_sub (by omega) (by omega)]; congr 1; omega
  conv => lhs; rw [impl_chunksOf_L12.e]
  simp only [w1, w2, Int.toNat_natCast, oneL_len]
  rw [if_pos c1, if_pos c2, oneL_at base ours h1, if_pos h2, if_pos c2, oneL_at base theirs h1, if_pos h3, wrap_succ (by omega)]

/-- both at the search -/
noncomputable def SeekS (base ours theirs : List ByteArray) (i j k q : Nat) (out : List T_Chunk.den) : Option (List T_Chunk.den) := spec_l4Chunks_L16.s base ours theirs (pA' base ours) (pA' base theirs) out.length i j k base.length q out
noncomputable def SeekI (base ours theirs : List ByteArray) (i j k q : Nat) (out : List T_Chunk.den) : Option (List T_Chunk.den) := impl_chunksOf_L7.s base ours theirs (oneL base ours).length (oneL base theirs).length i j k q (oneL base ours) (oneL base theirs) out.length out

theorem run_both (l1 : base.length ≤ 50000) (l2 : ours.length ≤ 50000) (l3 : theirs.length ≤ 50000) (t1 : tot base ≤ nb) (t2 : tot ours ≤ nb) (t3 : tot theirs ≤ nb) (p u v : Nat) (out : List T_Chunk.den)
    (M : ∀ i j k out', p < i → Seek base ours theirs nb i j k out' → Res nb (SeekS base ours theirs i j k i out') (SeekI base ours theirs i j k i out'))
    (ho : out.length ≤ 2 * p + 1) (hs : ∀ c ∈ out, SmallC nb c) : ∀ (e n : Nat), base.length - (p + n) = e → p + n ≤ base.length →
    (n = 0 ∧ p < base.length ∧ pA base ours p = (u : Int) ∧ pA base theirs p = (v : Int) ∨ 1 ≤ n ∧ pA base ours (p + n - 1) = ((u + n : Nat) : Int) - 1 ∧ pA base theirs (p + n - 1) = ((v + n : Nat) : Int) - 1) →
    Res nb (spec_l4Chunks_L9.s base ours theirs (pA' base ours) (pA' base theirs) out.length p u v base.length n out)
      (impl_chunksOf_L12.s base ours theirs (oneL base ours).length (oneL base theirs).length p u v ((p + n : Nat) : Int) (oneL base ours) (oneL base theirs) out.length out) := by
  intro e
  induction e with
  | zero =>
    intro n he hp hn
    have hu : u + n ≤ ours.length := by
      rcases hn with ⟨h0, _, h1, _⟩ | ⟨h0, h1, _⟩
      · have := pA_rng base ours p; omega
      · have := pA_rng base ours (p + n - 1); omega
    have hv : v + n ≤ theirs.length := by
      rcases hn with ⟨h0, _, _, h1⟩ | ⟨h0, _, h1⟩
      · have := pA_rng base theirs p; omega
      · have := pA_rng base theirs (p + n - 1); omega
    have hn1 : 1 ≤ n := by omega
    have hc : ¬ (p + n < base.length ∧ pA base ours (p + n) = ((u + n : Nat) : Int) ∧ pA base theirs (p + n) = ((v + n : Nat) : Int)) := fun h => by omega
    rw [spec_run_exit l1 l2 l3 p u v n out hp hu hv (by omega) hc, impl_run_exit l1 l2 l3 p u v n out hp hu hv (by omega) hc, if_neg (by omega)]
    refine M (p + n) (u + n) (v + n) _ (by omega) ⟨hp, hu, hv, fun q hq h0 => ?_, fun q hq h0 => ?_, ?_, putC_small hs (sub_small t1 t2 t3 l1 l2 l3 _ _ _ _ _ _)⟩
    · rcases hn with ⟨h0', _⟩ | ⟨_, h1, _⟩
      · omega
      · have := pA_inc base ours (p + n - 1) q (by omega) (by omega) h0
        omega
    · rcases hn with ⟨h0', _⟩ | ⟨_, _, h1⟩
      · omega
      · have := pA_inc base theirs (p + n - 1) q (by omega) (by omega) h0
        omega
    · have := putC_len out (sub_ base p (p + n)) (sub_ ours u (u + n)) (sub_ theirs v (v + n))
      omega
  | succ e ih =>
    intro n he hp hn
    have hu : u + n ≤ ours.length := by
      rcases hn with ⟨h0, _, h1, _⟩ | ⟨h0, h1, _⟩
      · have := pA_rng base ours p; omega
      · have := pA_rng base ours (p + n - 1); omega
    have hv : v + n ≤ theirs.length := by
      rcases hn with ⟨h0, _, _, h1⟩ | ⟨h0, _, h1⟩
      · have := pA_rng base theirs p; omega
      · have := pA_rng base theirs (p + n - 1); omega
    by_cases hc : p + n < base.length ∧ pA base ours (p + n) = ((u + n : Nat) : Int) ∧ pA base theirs (p + n) = ((v + n : Nat) : Int)
    · rw [spec_run_step l1 p u v n out (by omega) (by omega) hc, impl_run_step l1 p u v n out (by omega) (by omega) hc]
      refine ih (n + 1) (by omega) (by omega) (.inr ⟨by omega, ?_, ?_⟩)
      · rw [show p + (n + 1) - 1 = p + n by omega, hc.2.1]; omega
      · rw [show p + (n + 1) - 1 = p + n by omega, hc.2.2]; omega
    · have hn1 : 1 ≤ n := by
        rcases hn with ⟨h0, h1, h2, h3⟩ | ⟨h0, _⟩
        · exfalso
          subst h0
          exact hc ⟨h1, h2, h3⟩
        · exact h0
      rw [spec_run_exit l1 l2 l3 p u v n out hp hu hv (by omega) hc, impl_run_exit l1 l2 l3 p u v n out hp hu hv (by omega) hc, if_neg (by omega)]
      refine M (p + n) (u + n) (v + n) _ (by omega) ⟨hp, hu, hv, fun q hq h0 => ?_, fun q hq h0 => ?_, ?_, putC_small hs (sub_small t1 t2 t3 l1 l2 l3 _ _ _ _ _ _)⟩
      · rcases hn with ⟨h0', _⟩ | ⟨_, h1, _⟩
        · omega
        · have := pA_inc base ours (p + n - 1) q (by omega) (by omega) h0
          omega
      · rcases hn with ⟨h0', _⟩ | ⟨_, _, h1⟩
        · omega
        · have := pA_inc base theirs (p + n - 1) q (by omega) (by omega) h0
          omega
      · have := putC_len out (sub_ base p (p + n)) (sub_ ours u (u + n)) (sub_ theirs v (v + n))
        omega

theorem seek_both (l1 : base.length ≤ 50000) (l2 : ours.length ≤ 50000) (l3 : theirs.length ≤ 50000) (t1 : tot base ≤ nb) (t2 : tot ours ≤ nb) (t3 : tot theirs ≤ nb) (i j k : Nat) (out : List T_Chunk.den) (hS : Seek base ours theirs nb i j k out)
    (M : ∀ i' j k out', i < i' → Seek base ours theirs nb i' j k out' → Res nb (SeekS base ours theirs i' j k i' out') (SeekI base ours theirs i' j k i' out')) :
    ∀ (e q : Nat), base.length - q = e → i ≤ q → q ≤ base.length → Res nb (SeekS base ours theirs i j k q out) (SeekI base ours theirs i j k q out) := by
  intro e
  induction e with
  | zero =>
    intro q he hiq hq
    have hqe : q = base.length := by omega
    subst hqe
    have hol := hS.len
    have hj := hS.hj
    have hk := hS.hk
    have s1 := sub_len base i base.length
    have s2 := sub_len ours j ours.length
    have s3 := sub_len theirs k theirs.length
    have q1 : 0 ≤ ((i : Nat) : Int) ∧ ((i : Nat) : Int) ≤ (base.length : Int) := by omega
    have q2 : 0 ≤ ((j : Nat) : Int) ∧ ((j : Nat) : Int) ≤ (ours.length : Int) := by omega
    have q3 : 0 ≤ ((k : Nat) : Int) ∧ ((k : Nat) : Int) ≤ (theirs.length : Int) := by omega
    have c0 : ¬ (base.length : Int) < (base.length : Int) := by omega
    have hput : spec_l4Put.s out (List.drop i (List.take base.length base)) (List.drop j (List.take ours.length ours)) (List.drop k (List.take theirs.length theirs)) = some (putC out (sub_ base i base.length) (sub_ ours j ours.length) (sub_ theirs k theirs.length)) :=
      spec_put out (sub_ base i base.length) (sub_ ours j ours.length) (sub_ theirs k theirs.length) (by omega) (by omega) (by omega) (by omega)
    have hpl := putC_len out (sub_ base i base.length) (sub_ ours j ours.length) (sub_ theirs k theirs.length)
    refine ⟨putC out (sub_ base i base.length) (sub_ ours j ours.length) (sub_ theirs k theirs.length), ?_, ?_, by omega, putC_small hS.small (sub_small t1 t2 t3 l1 l2 l3 _ _ _ _ _ _)⟩
    · unfold SeekS
      rw [spec_l4Chunks_L16.e, if_neg c0, if_pos rfl, if_pos q1, if_pos q2, if_pos q3]
      simp only [Int.toNat_natCast]
      rw [hput, Option.bind_some]
    · unfold SeekI
      have hck : impl_chunkOf.s (List.drop i (List.take base.length base)) (List.drop j (List.take ours.length ours)) (List.drop k (List.take theirs.length theirs)) = some (ck (sub_ base i base.length) (sub_ ours j ours.length) (sub_ theirs k theirs.length)) :=
        impl_ck (sub_ base i base.length) (sub_ ours j ours.length) (sub_ theirs k theirs.length) (by omega) (by omega) (by omega)
      have d1 : (base.length : Int) ≤ (base.length : Int) := Int.le_refl _
      have d2 : 0 ≤ (base.length : Int) ∧ (base.length : Int) < ((base.length + 1 : Nat) : Int) := by omega
      have d3 : ¬ (ours.length : Int) < 0 := by omega
      have d4 : ¬ (theirs.length : Int) < 0 := by omega
      have d5 : 0 ≤ (base.length : Int) ∧ (base.length : Int) ≤ (base.length : Int) := by omega
      have d6 : 0 ≤ (ours.length : Int) ∧ (ours.length : Int) ≤ (ours.length : Int) := by omega
      have d7 : 0 ≤ (theirs.length : Int) ∧ (theirs.length : Int) ≤ (theirs.length : Int) := by omega
      have hfin := impl_add out (sub_ base i base.length) (sub_ ours j ours.length) (sub_ theirs k theirs.length) (by omega) (by omega) (by omega) (by omega)
        (fun N out' => if (0 ≤ (base.length : Int) ∧ (base.length : Int) < ((base.length + 1 : Nat) : Int)) then if (0 ≤ (base.length : Int) ∧ (base.length : Int) < ((base.length + 1 : Nat) : Int)) then impl_chunksOf_L12.s base ours theirs (base.length + 1) (base.length + 1) (base.length : Int) (ours.length : Int) (theirs.length : Int) (base.length : Int) (oneL base ours) (oneL base theirs) N out' else none else none) _ rfl
      rw [impl_chunksOf_L7.e]
      simp only [Int.toNat_natCast, oneL_len, oneL_end]
      rw [if_pos d1, if_pos d2, if_neg d3, if_pos d2, if_neg d4, if_pos d5, if_pos q1, if_pos d2, if_pos d6, if_pos q2, if_pos d2, if_pos d7, if_pos q3, hck, Option.bind_some]
      refine Eq.trans hfin ?_
      rw [if_pos d2, if_pos d2]
      have hx := impl_run_exit (base := base) (ours := ours) (theirs := theirs) l1 l2 l3 base.length ours.length theirs.length 0 (putC out (sub_ base i base.length) (sub_ ours j ours.length) (sub_ theirs k theirs.length)) (by omega) (by omega) (by omega) (by omega) (fun h => by omega)
      rw [if_pos rfl, oneL_len, oneL_len] at hx
      refine Eq.trans hx ?_
      have z : ∀ l : List ByteArray, (sub_ l l.length (l.length + 0)).length = 0 := fun l => by unfold sub_; simp
      unfold putC
      rw [if_pos (show (sub_ base base.length (base.length + 0)).length + (sub_ ours ours.length (ours.length + 0)).length + (sub_ theirs theirs.length (theirs.length + 0)).length = 0 by rw [z, z, z])]
  | succ e ih =>
    intro q he hiq hq
    have hq1 : q < base.length := by omega
    have hol := hS.len
    have c1 : ((q : Nat) : Int) < (base.length : Int) := by omega
    have c1' : ((q : Nat) : Int) ≤ (base.length : Int) := by omega
    have c2 : 0 ≤ ((q : Nat) : Int) ∧ ((q : Nat) : Int) < (base.length : Int) := by omega
    have c3 : 0 ≤ ((q : Nat) : Int) ∧ ((q : Nat) : Int) < ((base.length + 1 : Nat) : Int) := by omega
    have next := ih (q + 1) (by omega) (by omega) (by omega)
    by_cases hA : pA base ours q < 0
    · have e1 : SeekS base ours theirs i j k q out = SeekS base ours theirs i j k (q + 1) out := by
        unfold SeekS
        conv => lhs; rw [spec_l4Chunks_L16.e]
        simp only [Int.toNat_natCast, pA'_len]
        rw [if_pos c1, if_pos c2, pA'_at base ours hq1, if_pos hA, wrap_succ (by omega)]
      have e2 : SeekI base ours theirs i j k q out = SeekI base ours theirs i j k (q + 1) out := by
        unfold SeekI
        conv => lhs; rw [impl_chunksOf_L7.e]
        simp only [Int.toNat_natCast, oneL_len]
        rw [if_pos c1', if_pos c3, oneL_at base ours hq1, if_pos hA, wrap_succ (by omega)]
      rw [e1, e2]
      exact next
    by_cases hB : pA base theirs q < 0
    · have e1 : SeekS base ours theirs i j k q out = SeekS base ours theirs i j k (q + 1) out := by
        unfold SeekS
        conv => lhs; rw [spec_l4Chunks_L16.e]
        simp only [Int.toNat_natCast, pA'_len]
        rw [if_pos c1, if_pos c2, pA'_at base ours hq1, if_neg hA, if_pos c2, pA'_at base theirs hq1, if_pos hB, wrap_succ (by omega)]
      have e2 : SeekI base ours theirs i j k q out = SeekI base ours theirs i j k (q + 1) out := by
        unfold SeekI
        conv => lhs; rw [impl_chunksOf_L7.e]
        simp only [Int.toNat_natCast, oneL_len]
        rw [if_pos c1', if_pos c3, oneL_at base ours hq1, if_neg hA, if_pos c3, oneL_at base theirs hq1, if_pos hB, wrap_succ (by omega)]
      rw [e1, e2]
      exact next
    -- a line that both have
    obtain ⟨u, hu⟩ := Int.eq_ofNat_of_zero_le (show 0 ≤ pA base ours q by omega)
    obtain ⟨v, hv⟩ := Int.eq_ofNat_of_zero_le (show 0 ≤ pA base theirs q by omega)
    have hur := pA_rng base ours q
    have hvr := pA_rng base theirs q
    have hja := hS.ja q hiq (by omega)
    have hka := hS.ka q hiq (by omega)
    have s1 := sub_len base i q
    have s2 := sub_len ours j u
    have s3 := sub_len theirs k v
    have q0 : ¬ ((q : Nat) : Int) = (base.length : Int) := by omega
    have q1 : 0 ≤ ((q : Nat) : Int) ∧ ((q : Nat) : Int) ≤ (base.length : Int) := by omega
    have q2 : 0 ≤ ((i : Nat) : Int) ∧ ((i : Nat) : Int) ≤ ((q : Nat) : Int) := by omega
    have q3 : 0 ≤ ((u : Nat) : Int) ∧ ((u : Nat) : Int) ≤ (ours.length : Int) := by omega
    have q4 : 0 ≤ ((j : Nat) : Int) ∧ ((j : Nat) : Int) ≤ ((u : Nat) : Int) := by omega
    have q5 : 0 ≤ ((v : Nat) : Int) ∧ ((v : Nat) : Int) ≤ (theirs.length : Int) := by omega
    have q6 : 0 ≤ ((k : Nat) : Int) ∧ ((k : Nat) : Int) ≤ ((v : Nat) : Int) := by omega
    have hput : spec_l4Put.s out (List.drop i (List.take q base)) (List.drop j (List.take u ours)) (List.drop k (List.take v theirs)) = some (putC out (sub_ base i q) (sub_ ours j u) (sub_ theirs k v)) :=
      spec_put out (sub_ base i q) (sub_ ours j u) (sub_ theirs k v) (by omega) (by omega) (by omega) (by omega)
    have hck : impl_chunkOf.s (List.drop i (List.take q base)) (List.drop j (List.take u ours)) (List.drop k (List.take v theirs)) = some (ck (sub_ base i q) (sub_ ours j u) (sub_ theirs k v)) :=
      impl_ck (sub_ base i q) (sub_ ours j u) (sub_ theirs k v) (by omega) (by omega) (by omega)
    have hpl := putC_len out (sub_ base i q) (sub_ ours j u) (sub_ theirs k v)
    have hrun := run_both l1 l2 l3 t1 t2 t3 q u v (putC out (sub_ base i q) (sub_ ours j u) (sub_ theirs k v)) (fun i' j' k' out' hlt => M i' j' k' out' (by omega)) (by omega) (putC_small hS.small (sub_small t1 t2 t3 l1 l2 l3 _ _ _ _ _ _))
      (base.length - (q + 0)) 0 rfl (by omega) (.inl ⟨rfl, hq1, hu, hv⟩)
    have e1 : SeekS base ours theirs i j k q out = spec_l4Chunks_L9.s base ours theirs (pA' base ours) (pA' base theirs) (putC out (sub_ base i q) (sub_ ours j u) (sub_ theirs k v)).length q u v base.length ((0 : Nat) : Int) (putC out (sub_ base i q) (sub_ ours j u) (sub_ theirs k v)) := by
      unfold SeekS
      conv => lhs; rw [spec_l4Chunks_L16.e]
      simp only [Int.toNat_natCast, pA'_len]
      rw [if_pos c1, if_pos c2, pA'_at base ours hq1, if_neg hA, if_pos c2, pA'_at base theirs hq1, if_neg hB, if_neg q0, if_pos q1, if_pos q2, if_pos c2, hu, hv, Int.toNat_natCast, Int.toNat_natCast, if_pos q3, if_pos q4, if_pos c2, if_pos q5, if_pos q6, hput, Option.bind_some, if_pos c2, if_pos c2, spec_l4Chunks_L8.e]
      rfl
    have e2 : SeekI base ours theirs i j k q out = impl_chunksOf_L12.s base ours theirs (oneL base ours).length (oneL base theirs).length q u v ((q + 0 : Nat) : Int) (oneL base ours) (oneL base theirs) (putC out (sub_ base i q) (sub_ ours j u) (sub_ theirs k v)).length (putC out (sub_ base i q) (sub_ ours j u) (sub_ theirs k v)) := by
      unfold SeekI
      have hfin := impl_add out (sub_ base i q) (sub_ ours j u) (sub_ theirs k v) (by omega) (by omega) (by omega) (by omega)
        (fun N out' => if (0 ≤ ((q : Nat) : Int) ∧ ((q : Nat) : Int) < ((base.length + 1 : Nat) : Int)) then if (0 ≤ ((q : Nat) : Int) ∧ ((q : Nat) : Int) < ((base.length + 1 : Nat) : Int)) then impl_chunksOf_L12.s base ours theirs (base.length + 1) (base.length + 1) (q : Int) (u : Int) (v : Int) (q : Int) (oneL base ours) (oneL base theirs) N out' else none else none) _ rfl
      conv => lhs; rw [impl_chunksOf_L7.e]
      simp only [Int.toNat_natCast, oneL_len]
      rw [if_pos c1', if_pos c3, oneL_at base ours hq1, if_neg hA, if_pos c3, oneL_at base theirs hq1, if_neg hB, if_pos q1, if_pos q2, if_pos c3, hu, hv, Int.toNat_natCast, Int.toNat_natCast, if_pos q3, if_pos q4, if_pos c3, if_pos q5, if_pos q6, hck, Option.bind_some]
      refine Eq.trans hfin ?_
      rw [if_pos c3, if_pos c3]
      rfl
    rw [e1, e2]
    exact hrun
theorem main_both (l1 : base.length ≤ 50000) (l2 : ours.length ≤ 50000) (l3 : theirs.length ≤ 50000) (t1 : tot base ≤ nb) (t2 : tot ours ≤ nb) (t3 : tot theirs ≤ nb) : ∀ (d i j k : Nat) (out : List T_Chunk.den), base.length - i ≤ d → Seek base ours theirs nb i j k out →
    Res nb (SeekS base ours theirs i j k i out) (SeekI base ours theirs i j k i out)
  | 0, i, j, k, out, hd, hS => seek_both l1 l2 l3 t1 t2 t3 i j k out hS (fun i' j' k' out' hlt hS' => by have := hS'.hi; omega) _ i rfl (Nat.le_refl _) hS.hi
  | d + 1, i, j, k, out, hd, hS => seek_both l1 l2 l3 t1 t2 t3 i j k out hS (fun i' j' k' out' hlt hS' => main_both l1 l2 l3 t1 t2 t3 d i' j' k' out' (by omega) hS') _ i rfl (Nat.le_refl _) hS.hi

theorem chunks_both (l1 : base.length ≤ 50000) (l2 : ours.length ≤ 50000) (l3 : theirs.length ≤ 50000) (t1 : tot base ≤ nb) (t2 : tot ours ≤ nb) (t3 : tot theirs ≤ nb) : Res nb (spec_l4Chunks.s base ours theirs) (impl_chunksOf.s base ours theirs) := by
  have seek0 : Seek base ours theirs nb 0 0 0 [] := ⟨Nat.zero_le _, Nat.zero_le _, Nat.zero_le _, fun q _ h => by omega, fun q _ h => by omega, Nat.le_refl _, fun c hc => by cases hc⟩
  have eS : spec_l4Chunks.s base ours theirs = spec_l4Chunks_L9.s base ours theirs (pA' base ours) (pA' base theirs) ([] : List T_Chunk.den).length ((0 : Nat) : Int) ((0 : Nat) : Int) ((0 : Nat) : Int) base.length ((0 : Nat) : Int) [] := by
    rw [spec_l4Chunks.e, spec_partner base ours l1 l2, spec_partner base theirs l1 l3, Option.bind_some, Option.bind_some, spec_l4Chunks_L8.e]
    rfl
  have eI : impl_chunksOf.s base ours theirs = SeekI base ours theirs 0 0 0 0 [] := by
    have h1 : (part base.length (prs base ours)).length = base.length := part_len _ _
    have h2 : (part base.length (prs base theirs)).length = base.length := part_len _ _
    rw [impl_chunksOf.e, impl_partner base ours l1 l2, impl_partner base theirs l1 l3, Option.bind_some, Option.bind_some, fill1, fill1, if_pos (by simp [h1]; omega), if_pos (by simp [h2]; omega)]
    unfold SeekI oneL pA'
    rfl
  rw [eS, eI]
  by_cases hc : 0 < base.length ∧ pA base ours 0 = ((0 : Nat) : Int) ∧ pA base theirs 0 = ((0 : Nat) : Int)
  · obtain ⟨c1, c2, c3⟩ := hc
    have hrun := run_both l1 l2 l3 t1 t2 t3 0 0 0 [] (fun i' j' k' out' hlt hS => main_both l1 l2 l3 t1 t2 t3 base.length i' j' k' out' (by omega) hS) (by simp) (fun c hc => by cases hc) (base.length - (0 + 0)) 0 rfl (by omega) (.inl ⟨rfl, c1, c2, c3⟩)
    have e2 : SeekI base ours theirs 0 0 0 0 [] = impl_chunksOf_L12.s base ours theirs (oneL base ours).length (oneL base theirs).length ((0 : Nat) : Int) ((0 : Nat) : Int) ((0 : Nat) : Int) ((0 + 0 : Nat) : Int) (oneL base ours) (oneL base theirs) ([] : List T_Chunk.den).length [] := by
      unfold SeekI
      have z : ∀ l : List ByteArray, (sub_ l 0 0).length = 0 := fun l => by unfold sub_; simp
      have hpe : putC [] (sub_ base 0 0) (sub_ ours 0 0) (sub_ theirs 0 0) = [] := by
        unfold putC
        rw [if_pos (by rw [z, z, z])]
      have hck : impl_chunkOf.s (List.drop 0 (List.take 0 base)) (List.drop 0 (List.take 0 ours)) (List.drop 0 (List.take 0 theirs)) = some (ck (sub_ base 0 0) (sub_ ours 0 0) (sub_ theirs 0 0)) :=
        impl_ck (sub_ base 0 0) (sub_ ours 0 0) (sub_ theirs 0 0) (by rw [z]; omega) (by rw [z]; omega) (by rw [z]; omega)
      have hfin := impl_add [] (sub_ base 0 0) (sub_ ours 0 0) (sub_ theirs 0 0) (by simp) (by rw [z]; omega) (by rw [z]; omega) (by rw [z]; omega)
        (fun N out' => if (0 ≤ ((0 : Nat) : Int) ∧ ((0 : Nat) : Int) < ((base.length + 1 : Nat) : Int)) then if (0 ≤ ((0 : Nat) : Int) ∧ ((0 : Nat) : Int) < ((base.length + 1 : Nat) : Int)) then impl_chunksOf_L12.s base ours theirs (base.length + 1) (base.length + 1) ((0 : Nat) : Int) ((0 : Nat) : Int) ((0 : Nat) : Int) ((0 : Nat) : Int) (oneL base ours) (oneL base theirs) N out' else none else none) _ rfl
      have d1 : ((0 : Nat) : Int) ≤ (base.length : Int) := by omega
      have d2 : 0 ≤ ((0 : Nat) : Int) ∧ ((0 : Nat) : Int) < ((base.length + 1 : Nat) : Int) := by omega
      have d3 : ¬ ((0 : Nat) : Int) < 0 := by omega
      have d4 : 0 ≤ ((0 : Nat) : Int) ∧ ((0 : Nat) : Int) ≤ (base.length : Int) := by omega
      have d5 : 0 ≤ ((0 : Nat) : Int) ∧ ((0 : Nat) : Int) ≤ ((0 : Nat) : Int) := by omega
      have d6 : 0 ≤ ((0 : Nat) : Int) ∧ ((0 : Nat) : Int) ≤ (ours.length : Int) := by omega
      have d7 : 0 ≤ ((0 : Nat) : Int) ∧ ((0 : Nat) : Int) ≤ (theirs.length : Int) := by omega
      conv => lhs; rw [impl_chunksOf_L7.e]
      simp only [Int.toNat_natCast, oneL_len]
      rw [if_pos d1, if_pos d2, oneL_at base ours c1, c2, if_neg d3, if_pos d2, oneL_at base theirs c1, c3, if_neg d3, if_pos d4, if_pos d5, if_pos d2, if_pos d6, if_pos d5, if_pos d2, if_pos d7, if_pos d5, Int.toNat_natCast, hck, Option.bind_some]
      refine Eq.trans hfin ?_
      rw [if_pos d2, if_pos d2, hpe]
    rw [e2]
    exact hrun
  · have z : ∀ l : List ByteArray, (sub_ l 0 (0 + 0)).length = 0 := fun l => by unfold sub_; simp
    have hx := spec_run_exit (base := base) (ours := ours) (theirs := theirs) l1 l2 l3 0 0 0 0 [] (by omega) (by omega) (by omega) (by simp) (by simpa using hc)
    have hpe : putC [] (sub_ base 0 (0 + 0)) (sub_ ours 0 (0 + 0)) (sub_ theirs 0 (0 + 0)) = [] := by
      unfold putC
      rw [if_pos (by rw [z, z, z])]
    rw [hpe] at hx
    rw [hx]
    exact main_both l1 l2 l3 t1 t2 t3 base.length 0 0 0 [] (by omega) seek0
end
end Go.Proofs.YtmojilihllhadaaGreatDoor.Ev
