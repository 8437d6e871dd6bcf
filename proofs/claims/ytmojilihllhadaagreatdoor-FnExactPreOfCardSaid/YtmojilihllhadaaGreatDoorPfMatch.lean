/- Lines that are chosen, and partners: both ways the same. -/
import Derived.Test.YtmojilihllhadaaGreatDoorPfBase
set_option linter.unusedVariables false
set_option linter.unusedSimpArgs false
namespace Go.Proofs.YtmojilihllhadaaGreatDoor.Ev
open Go

theorem nthS {l : List ByteArray} {i : Nat} (h : i < l.length) : nth Ty.str l i = l[i] := nth_at (t := .str) h
theorem nthI {l : List Int} {i : Nat} (h : i < l.length) : nth (Ty.int IntKind.i64) l i = l[i] := nth_at (t := .int .i64) h

/-! #### the table -/
theorem tab_len (a b : List ByteArray) : (tabL a b).length = a.length + 1 := by simp [tabL]
theorem tab_row (a b : List ByteArray) {i : Nat} (h : i < a.length + 1) : nth (Ty.int IntKind.i64).sl (tabL a b) i = (List.range (b.length + 1)).map fun j => ((lcsN (a.drop i) (b.drop j) : Nat) : Int) := by
  rw [nth_at (t := (Ty.int IntKind.i64).sl) (by rw [tab_len]; exact h)]
  simp [tabL]
theorem row_len (a b : List ByteArray) (i : Nat) : ((List.range (b.length + 1)).map fun j => ((lcsN (a.drop i) (b.drop j) : Nat) : Int)).length = b.length + 1 := by simp
theorem row_at (a b : List ByteArray) (i : Nat) {j : Nat} (h : j < b.length + 1) : nth (Ty.int IntKind.i64) ((List.range (b.length + 1)).map fun j => ((lcsN (a.drop i) (b.drop j) : Nat) : Int)) j = ((lcsN (a.drop i) (b.drop j) : Nat) : Int) := by
  rw [nthI (by simp; exact h)]
  simp

/-! #### the pairs -/
def mtch (a b : List ByteArray) : Nat → Nat → Nat → List (Nat × Nat)
  | 0, _, _ => []
  | f + 1, i, j => if h : i < a.length ∧ j < b.length then
      if a[i]'h.1 = b[j]'h.2 then (i, j) :: mtch a b f (i + 1) (j + 1)
      else if lcsN (a.drop i) (b.drop (j + 1)) ≤ lcsN (a.drop (i + 1)) (b.drop j) then mtch a b f (i + 1) j
      else mtch a b f i (j + 1)
    else []
def fsts (l : List (Nat × Nat)) : List Int := l.map fun p => (p.1 : Int)
def snds (l : List (Nat × Nat)) : List Int := l.map fun p => (p.2 : Int)
theorem spec_m_loop (a b : List ByteArray) (ha : a.length ≤ 50000) (hb : b.length ≤ 50000) : ∀ (f i j : Nat) (m7 m8 : List Int), a.length + b.length ≤ f + i + j → i ≤ a.length → j ≤ b.length → m7.length ≤ i → m8.length ≤ j →
    spec_l2Match_L6.s a b (tabL a b) m7.length m8.length i j m7 m8 = some (m7 ++ fsts (mtch a b f i j), m8 ++ snds (mtch a b f i j))
  | 0, i, j, m7, m8, h, hi, hj, h7, h8 => by
    rw [spec_l2Match_L6.e, if_neg (by omega)]
    simp [mtch, fsts, snds]
  | f + 1, i, j, m7, m8, h, hi, hj, h7, h8 => by
    rw [spec_l2Match_L6.e]
    unfold mtch
    by_cases hi1 : i < a.length
    rotate_left
    · rw [if_neg (by omega), dif_neg (by omega)]
      simp [fsts, snds]
    by_cases hj1 : j < b.length
    rotate_left
    · rw [if_pos (by omega), if_neg (by omega), dif_neg (by omega)]
      simp [fsts, snds]
    have c1 : ((i : Nat) : Int) < (a.length : Int) := by omega
    have c2 : ((j : Nat) : Int) < (b.length : Int) := by omega
    have c3 : 0 ≤ ((i : Nat) : Int) ∧ ((i : Nat) : Int) < (a.length : Int) := by omega
    have c4 : 0 ≤ ((j : Nat) : Int) ∧ ((j : Nat) : Int) < (b.length : Int) := by omega
    rw [if_pos c1, if_pos c2, if_pos c3, if_pos c4, dif_pos ⟨hi1, hj1⟩]
    simp only [Int.toNat_natCast, nthS hi1, nthS hj1, wrap_succ (show i < 4611686018427387904 by omega), wrap_succ (show j < 4611686018427387904 by omega), fill1, tab_len]
    by_cases he : a[i] = b[j]
    · rw [if_pos he, if_pos he, if_pos (by simp; omega), if_pos (by simp; omega)]
      have := spec_m_loop a b ha hb f (i + 1) (j + 1) (m7 ++ [(i : Int)]) (m8 ++ [(j : Int)]) (by omega) (by omega) (by omega) (by simp; omega) (by simp; omega)
      rw [this]
      simp [fsts, snds]
    · rw [if_neg he, if_neg he, if_pos (by omega)]
      simp only [tab_row a b (show i < a.length + 1 by omega), tab_row a b (show i + 1 < a.length + 1 by omega), row_len, row_at a b _ (show j < b.length + 1 by omega), row_at a b _ (show j + 1 < b.length + 1 by omega)]
      rw [if_pos (by omega), if_pos (by omega), if_pos (by omega)]
      by_cases hl : lcsN (a.drop i) (b.drop (j + 1)) ≤ lcsN (a.drop (i + 1)) (b.drop j)
      · have hc : ((lcsN (a.drop (i + 1)) (b.drop j) : Nat) : Int) ≥ ((lcsN (a.drop i) (b.drop (j + 1)) : Nat) : Int) := by omega
        rw [if_pos hc, if_pos hl]
        exact spec_m_loop a b ha hb f (i + 1) j m7 m8 (by omega) (by omega) (by omega) (by omega) (by omega)
      · have hc : ¬ ((lcsN (a.drop (i + 1)) (b.drop j) : Nat) : Int) ≥ ((lcsN (a.drop i) (b.drop (j + 1)) : Nat) : Int) := by omega
        rw [if_neg hc, if_neg hl]
        exact spec_m_loop a b ha hb f i (j + 1) m7 m8 (by omega) (by omega) (by omega) (by omega) (by omega)
theorem impl_m_loop (a b : List ByteArray) (ha : a.length ≤ 50000) (hb : b.length ≤ 50000) : ∀ (f i j : Nat) (m7 m8 : List Int), a.length + b.length ≤ f + i + j → i ≤ a.length → j ≤ b.length → m7.length ≤ i → m8.length ≤ j →
    impl_match_L4.s a b (tabL a b) m7.length m8.length i j m7 m8 = some (m7 ++ fsts (mtch a b f i j), m8 ++ snds (mtch a b f i j))
  | 0, i, j, m7, m8, h, hi, hj, h7, h8 => by
    rw [impl_match_L4.e, if_neg (by omega)]
    simp [mtch, fsts, snds]
  | f + 1, i, j, m7, m8, h, hi, hj, h7, h8 => by
    rw [impl_match_L4.e]
    unfold mtch
    by_cases hi1 : i < a.length
    rotate_left
    · rw [if_neg (by omega), dif_neg (by omega)]
      simp [fsts, snds]
    by_cases hj1 : j < b.length
    rotate_left
    · rw [if_pos (by omega), if_neg (by omega), dif_neg (by omega)]
      simp [fsts, snds]
    have c1 : ((i : Nat) : Int) < (a.length : Int) := by omega
    have c2 : ((j : Nat) : Int) < (b.length : Int) := by omega
    have c3 : 0 ≤ ((i : Nat) : Int) ∧ ((i : Nat) : Int) < (a.length : Int) := by omega
    have c4 : 0 ≤ ((j : Nat) : Int) ∧ ((j : Nat) : Int) < (b.length : Int) := by omega
    rw [if_pos c1, if_pos c2, if_pos c3, if_pos c4, dif_pos ⟨hi1, hj1⟩]
    simp only [Int.toNat_natCast, nthS hi1, nthS hj1, wrap_succ (show i < 4611686018427387904 by omega), wrap_succ (show j < 4611686018427387904 by omega), fill1, tab_len]
    by_cases he : a[i] = b[j]
    · rw [if_pos he, if_pos he, if_pos (by simp; omega), if_pos (by simp; omega)]
      have := impl_m_loop a b ha hb f (i + 1) (j + 1) (m7 ++ [(i : Int)]) (m8 ++ [(j : Int)]) (by omega) (by omega) (by omega) (by simp; omega) (by simp; omega)
      rw [this]
      simp [fsts, snds]
    · rw [if_neg he, if_neg he, if_pos (by omega)]
      simp only [tab_row a b (show i < a.length + 1 by omega), tab_row a b (show i + 1 < a.length + 1 by omega), row_len, row_at a b _ (show j < b.length + 1 by omega), row_at a b _ (show j + 1 < b.length + 1 by omega)]
      rw [if_pos (by omega), if_pos (by omega), if_pos (by omega)]
      by_cases hl : lcsN (a.drop i) (b.drop (j + 1)) ≤ lcsN (a.drop (i + 1)) (b.drop j)
      · have hc : ((lcsN (a.drop (i + 1)) (b.drop j) : Nat) : Int) ≥ ((lcsN (a.drop i) (b.drop (j + 1)) : Nat) : Int) := by omega
        rw [if_pos hc, if_pos hl]
        exact impl_m_loop a b ha hb f (i + 1) j m7 m8 (by omega) (by omega) (by omega) (by omega) (by omega)
      · have hc : ¬ ((lcsN (a.drop (i + 1)) (b.drop j) : Nat) : Int) ≥ ((lcsN (a.drop i) (b.drop (j + 1)) : Nat) : Int) := by omega
        rw [if_neg hc, if_neg hl]
        exact impl_m_loop a b ha hb f i (j + 1) m7 m8 (by omega) (by omega) (by omega) (by omega) (by omega)
def prs (a b : List ByteArray) : List (Nat × Nat) := mtch a b (a.length + b.length) 0 0
theorem spec_mt (a b : List ByteArray) (ha : a.length ≤ 50000) (hb : b.length ≤ 50000) : spec_l2Match.s a b = some (fsts (prs a b), snds (prs a b)) := by
  rw [spec_l2Match.e, if_pos ⟨ha, hb⟩]
  have := spec_m_loop a b ha hb (a.length + b.length) 0 0 [] [] (by omega) (by omega) (by omega) (by simp) (by simp)
  simpa [prs] using this
theorem impl_mt (a b : List ByteArray) (ha : a.length ≤ 50000) (hb : b.length ≤ 50000) : impl_match.s a b = some (fsts (prs a b), snds (prs a b)) := by
  rw [impl_match.e, if_pos ⟨ha, hb⟩]
  have := impl_m_loop a b ha hb (a.length + b.length) 0 0 [] [] (by omega) (by omega) (by omega) (by simp) (by simp)
  simpa [prs] using this

/-- pairs that rise -/
def Inc (n m : Nat) : Nat → Nat → List (Nat × Nat) → Prop
  | _, _, [] => True
  | i, j, p :: r => i ≤ p.1 ∧ p.1 < n ∧ j ≤ p.2 ∧ p.2 < m ∧ Inc n m (p.1 + 1) (p.2 + 1) r
theorem Inc.weak {n m : Nat} : ∀ {l : List (Nat × Nat)} {i j i' j' : Nat}, Inc n m i j l → i' ≤ i → j' ≤ j → Inc n m i' j' l
  | [], _, _, _, _, _, _, _ => True.intro
  | p :: r, _, _, _, _, ⟨h1, h2, h3, h4, h5⟩, hi, hj => ⟨by omega, h2, by omega, h4, h5⟩
theorem mtch_inc (a b : List ByteArray) : ∀ (f i j : Nat), Inc a.length b.length i j (mtch a b f i j)
  | 0, i, j => True.intro
  | f + 1, i, j => by
    unfold mtch
    split
    · rename_i h
      split
      · exact ⟨Nat.le_refl _, h.1, Nat.le_refl _, h.2, mtch_inc a b f (i + 1) (j + 1)⟩
      · split
        · exact (mtch_inc a b f (i + 1) j).weak (by omega) (by omega)
        · exact (mtch_inc a b f i (j + 1)).weak (by omega) (by omega)
    · exact True.intro
/-- the partner of a place; -1: it has none -/
def pfn (l : List (Nat × Nat)) (k : Nat) : Int := match l with
  | [] => -1
  | p :: r => if p.1 = k then (p.2 : Int) else pfn r k
theorem pfn_low {n m : Nat} : ∀ {l : List (Nat × Nat)} {i j : Nat}, Inc n m i j l → ∀ k, k < i → pfn l k = -1
  | [], _, _, _, _, _ => rfl
  | p :: r, i, j, ⟨h1, h2, h3, h4, h5⟩, k, hk => by
    unfold pfn
    rw [if_neg (by omega)]
    exact pfn_low h5 k (by omega)
theorem pfn_rng {n m : Nat} : ∀ {l : List (Nat × Nat)} {i j : Nat}, Inc n m i j l → ∀ k, pfn l k = -1 ∨ (i ≤ k ∧ k < n ∧ (j : Int) ≤ pfn l k ∧ pfn l k < m)
  | [], _, _, _, _ => .inl rfl
  | p :: r, i, j, ⟨h1, h2, h3, h4, h5⟩, k => by
    unfold pfn
    by_cases e : p.1 = k
    · rw [if_pos e]; exact .inr (by omega)
    · rw [if_neg e]
      rcases pfn_rng h5 k with h | h
      · exact .inl h
      · exact .inr (by omega)
theorem pfn_inc {n m : Nat} : ∀ {l : List (Nat × Nat)} {i j : Nat}, Inc n m i j l → ∀ k k', k < k' → 0 ≤ pfn l k → 0 ≤ pfn l k' → pfn l k < pfn l k'
  | [], _, _, _, _, _, _, h, _ => by cases h
  | p :: r, i, j, ⟨h1, h2, h3, h4, h5⟩, k, k', hk, q1, q2 => by
    unfold pfn at q1 q2 ⊢
    by_cases e : p.1 = k
    · rw [if_pos e]
      rw [if_neg (by omega)] at q2 ⊢
      rcases pfn_rng h5 k' with h | h
      · omega
      · omega
    · rw [if_neg e] at q1 ⊢
      by_cases e' : p.1 = k'
      · have := pfn_low h5 k (by omega)
        omega
      · rw [if_neg e'] at q2 ⊢
        exact pfn_inc h5 k k' hk q1 q2
/-- partners, as a list -/
def setP (l : List Int) (ps : List (Nat × Nat)) : List Int := ps.foldl (fun l p => l.set p.1 (p.2 : Int)) l
theorem setP_len : ∀ (ps : List (Nat × Nat)) (l : List Int), (setP l ps).length = l.length
  | [], _ => rfl
  | p :: r, l => by
    show (setP (l.set p.1 _) r).length = _
    rw [setP_len r]; simp
theorem setP_at {n m : Nat} : ∀ (ps : List (Nat × Nat)) (l : List Int) (i j : Nat), Inc n m i j ps → l.length = n → ∀ k (hk : k < (setP l ps).length), (setP l ps)[k] = if pfn ps k = -1 then l[k]'(by rw [← setP_len ps l]; exact hk) else pfn ps k
  | [], l, i, j, h, hl, k, hk => by rw [if_pos (show pfn [] k = -1 from rfl)]; rfl
  | p :: r, l, i, j, ⟨h1, h2, h3, h4, h5⟩, hl, k, hk => by
    have hk' : k < (setP (l.set p.1 (p.2 : Int)) r).length := hk
    have ih := setP_at r (l.set p.1 (p.2 : Int)) (p.1 + 1) (p.2 + 1) h5 (by simpa using hl) k hk'
    show (setP (l.set p.1 (p.2 : Int)) r)[k] = _
    rw [ih]
    have he : pfn (p :: r) k = if p.1 = k then (p.2 : Int) else pfn r k := rfl
    rw [he]
    by_cases e : p.1 = k
    · have hlow := pfn_low h5 k (by omega)
      rw [if_pos hlow, if_pos e, if_neg (by omega)]
      subst e
      simp
    · rw [if_neg e]
      by_cases e2 : pfn r k = -1
      · rw [if_pos e2, if_pos e2, List.getElem_set_ne e]
      · rw [if_neg e2, if_neg e2]
def part (n : Nat) (ps : List (Nat × Nat)) : List Int := setP (List.replicate n (-1)) ps
theorem part_len (n : Nat) (ps : List (Nat × Nat)) : (part n ps).length = n := by unfold part; rw [setP_len]; simp
theorem part_at {n m : Nat} {ps : List (Nat × Nat)} (h : Inc n m 0 0 ps) {k : Nat} (hk : k < n) : nth (Ty.int IntKind.i64) (part n ps) k = pfn ps k := by
  rw [nthI (by rw [part_len]; exact hk)]
  have := setP_at ps (List.replicate n (-1)) 0 0 h (by simp) k (by rw [setP_len]; simpa using hk)
  refine Eq.trans this ?_
  split
  · rename_i e; rw [e]; simp
  · rfl
theorem fs_nth (l : List (Nat × Nat)) {i : Nat} (h : i < l.length) : nth (Ty.int IntKind.i64) (fsts l) i = ((l[i].1 : Nat) : Int) ∧ nth (Ty.int IntKind.i64) (snds l) i = ((l[i].2 : Nat) : Int) := by
  refine ⟨?_, ?_⟩
  · rw [nthI (by simpa [fsts] using h)]; simp [fsts]
  · rw [nthI (by simpa [snds] using h)]; simp [snds]
theorem fs_len (l : List (Nat × Nat)) : (fsts l).length = l.length ∧ (snds l).length = l.length := by simp [fsts, snds]
theorem Inc.all {n m : Nat} : ∀ {l : List (Nat × Nat)} {i j : Nat}, Inc n m i j l → ∀ p ∈ l, p.1 < n
  | [], _, _, _, _, h => by cases h
  | q :: r, _, _, ⟨h1, h2, h3, h4, h5⟩, p, h => by
    rcases List.mem_cons.1 h with rfl | h
    · exact h2
    · exact h5.all p h
theorem Inc.len {n m : Nat} : ∀ {l : List (Nat × Nat)} {i j : Nat}, Inc n m i j l → i ≤ n → l.length + i ≤ n
  | [], _, _, _, h => by simpa using h
  | q :: r, i, j, ⟨h1, h2, h3, h4, h5⟩, h => by
    have := h5.len (by omega)
    simp only [List.length_cons]
    omega
theorem spec_set (n m : Nat) (ps : List (Nat × Nat)) (hin : Inc n m 0 0 ps) (hn : n ≤ 50000) : ∀ (k i : Nat) (l : List Int), i + k = ps.length → l.length = n → spec_l4Partner_L8.s n (fsts ps) (snds ps) i l = some (setP l (ps.drop i))
  | 0, i, l, h, hl => by
    rw [spec_l4Partner_L8.e, if_neg (by rw [(fs_len ps).1]; omega), List.drop_eq_nil_of_le (by omega)]; rfl
  | k + 1, i, l, h, hl => by
    have hi : i < ps.length := by omega
    have hlt := hin.all _ (List.getElem_mem hi)
    have hpl := hin.len (Nat.zero_le _)
    obtain ⟨q1, q2⟩ := fs_nth ps hi
    rw [spec_l4Partner_L8.e]
    simp only [(fs_len ps).1, (fs_len ps).2, Int.toNat_natCast, q1, q2]
    have c1 : ((i : Nat) : Int) < (ps.length : Int) := by omega
    have c2 : 0 ≤ ((i : Nat) : Int) ∧ ((i : Nat) : Int) < (ps.length : Int) := by omega
    have c3 : 0 ≤ ((ps[i].1 : Nat) : Int) ∧ ((ps[i].1 : Nat) : Int) < (n : Int) := by omega
    rw [if_pos c1, if_pos c2, if_pos c2, if_pos c3, wrap_succ (by omega), spec_set n m ps hin hn k (i + 1) _ (by omega) (by simpa using hl), List.drop_eq_getElem_cons hi]
    rfl
theorem impl_set (n m : Nat) (ps : List (Nat × Nat)) (hin : Inc n m 0 0 ps) (hn : n ≤ 50000) : ∀ (k i : Nat) (l : List Int), i + k = ps.length → l.length = n → impl_places_L8.s n (snds ps) (fsts ps) ps.length i l = some (setP l (ps.drop i))
  | 0, i, l, h, hl => by
    rw [impl_places_L8.e, if_neg (by omega), List.drop_eq_nil_of_le (by omega)]; rfl
  | k + 1, i, l, h, hl => by
    have hi : i < ps.length := by omega
    have hlt := hin.all _ (List.getElem_mem hi)
    have hpl := hin.len (Nat.zero_le _)
    obtain ⟨q1, q2⟩ := fs_nth ps hi
    rw [impl_places_L8.e]
    simp only [(fs_len ps).1, (fs_len ps).2, Int.toNat_natCast, q1, q2]
    have c1 : ((i : Nat) : Int) < (ps.length : Int) := by omega
    have c2 : 0 ≤ ((i : Nat) : Int) ∧ ((i : Nat) : Int) < (ps.length : Int) := by omega
    have c3 : 0 ≤ ((ps[i].1 : Nat) : Int) ∧ ((ps[i].1 : Nat) : Int) < (n : Int) := by omega
    rw [if_pos c1, if_pos c2, if_pos c2, if_pos c3, wrap_succ (by omega), impl_set n m ps hin hn k (i + 1) _ (by omega) (by simpa using hl), List.drop_eq_getElem_cons hi]
    rfl
theorem prs_inc (a b : List ByteArray) : Inc a.length b.length 0 0 (prs a b) := mtch_inc a b _ 0 0
theorem spec_fill (a b : List ByteArray) (ha : a.length ≤ 50000) (hb : b.length ≤ 50000) : ∀ (k i : Nat) (l : List Int), i + k = a.length → l = List.replicate i (-1) ++ List.replicate k 0 → spec_l4Partner_L3.s a b a.length i l = some (part a.length (prs a b))
  | 0, i, l, h, hl => by
    have hl' : l = List.replicate a.length (-1) := by rw [hl, show i = a.length by omega]; simp
    rw [spec_l4Partner_L3.e, if_neg (by omega), spec_mt a b ha hb, Option.bind_some]
    have := spec_set a.length b.length (prs a b) (prs_inc a b) ha (prs a b).length 0 l (by omega) (by rw [hl']; simp)
    rw [List.drop_zero, hl'] at this
    rw [hl']
    exact this
  | k + 1, i, l, h, hl => by
    rw [spec_l4Partner_L3.e, if_pos (by omega), if_pos (by omega), wrap_succ (by omega), Int.toNat_natCast]
    refine spec_fill a b ha hb k (i + 1) _ (by omega) ?_
    rw [hl, List.replicate_succ' (n := i), List.replicate_succ, List.set_append_right _ _ (by simp)]
    simp
theorem spec_partner (a b : List ByteArray) (ha : a.length ≤ 50000) (hb : b.length ≤ 50000) : spec_l4Partner.s a b = some (part a.length (prs a b)) := by
  rw [spec_l4Partner.e, if_pos (by omega), Int.toNat_natCast, List.length_replicate]
  exact spec_fill a b ha hb a.length 0 _ (by omega) (by simp)
theorem impl_fill (a b : List ByteArray) (ha : a.length ≤ 50000) (hb : b.length ≤ 50000) : ∀ (k i : Nat) (l : List Int), i + k = a.length → l = List.replicate i (-1) → impl_places_L3.s a b l.length a.length i l = some (part a.length (prs a b))
  | 0, i, l, h, hl => by
    have hl' : l = List.replicate a.length (-1) := by rw [hl, show i = a.length by omega]
    rw [impl_places_L3.e, if_neg (by omega), impl_mt a b ha hb, Option.bind_some]
    have := impl_set a.length b.length (prs a b) (prs_inc a b) ha (prs a b).length 0 l (by omega) (by rw [hl']; simp)
    rw [List.drop_zero, hl'] at this
    rw [hl', List.length_replicate]
    simp only [(fs_len _).1]
    exact this
  | k + 1, i, l, h, hl => by
    have hll : l.length = i := by rw [hl]; simp
    rw [impl_places_L3.e, if_pos (by omega), fill1, if_pos (by simp; omega), wrap_succ (by omega)]
    refine impl_fill a b ha hb k (i + 1) _ (by omega) ?_
    rw [hl, List.replicate_succ']
theorem impl_partner (a b : List ByteArray) (ha : a.length ≤ 50000) (hb : b.length ≤ 50000) : impl_places.s a b = some (part a.length (prs a b)) := by
  rw [impl_places.e]
  exact impl_fill a b ha hb a.length 0 [] (by omega) (by simp)
end Go.Proofs.YtmojilihllhadaaGreatDoor.Ev
