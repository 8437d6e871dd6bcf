/- What is written into an answer's memory stands there. -/
import Derived.Test.YtmojilihllhadaaGreatDoorPfBase
set_option linter.unusedVariables false
set_option linter.unusedSimpArgs false
namespace Go.Proofs.YtmojilihllhadaaGreatDoor.Ev
open Go

theorem digit_size (c : Int) : (bytesStr (fillElems [(0, c)] (List.replicate 1 (0 : Int)))).size = 1 := rfl
theorem m_size : (ByteArray.mk #[(109 : UInt8)]).size = 1 := rfl
theorem app_size (a b : ByteArray) : (a ++ b).size = a.size + b.size := ByteArray.size_append
theorem tdiv_nat (k : Nat) : (k : Int).tdiv 10 = ((k / 10 : Nat) : Int) := by rw [Int.tdiv_eq_ediv_of_nonneg (by omega)]; omega

theorem markText_L4 : ∀ (f k : Nat) (s : ByteArray), k < 10 ^ f → k < 4611686018427387904 → s.size + f < 4611686018427387904 → ∃ t, Says (fun n => laws_markText_L4 n (k : Int) s) t
  | 0, k, s, hk, hb, hs => by
    have : k = 0 := by simpa using hk
    subst this
    exact ⟨_, Says.step (fun n => laws_markText_L4_eq n 0 s) (Says.neg (by omega) (Says.pos (by rw [m_size]; omega) (.now _)))⟩
  | f + 1, k, s, hk, hb, hs => by
    by_cases h : k = 0
    · subst h
      exact ⟨_, Says.step (fun n => laws_markText_L4_eq n 0 s) (Says.neg (by omega) (Says.pos (by rw [m_size]; omega) (.now _)))⟩
    · have hk' : k / 10 < 10 ^ f := by
        rw [Nat.pow_succ] at hk
        exact Nat.div_lt_of_lt_mul (by rw [Nat.mul_comm]; exact hk)
      obtain ⟨t, ht⟩ := markText_L4 f (k / 10) (bytesStr (fillElems [(0, IntKind.u8.wrap (IntKind.i64.wrap (48 + (k : Int).tmod 10)))] (List.replicate 1 (0 : Int))) ++ s) hk' (by omega) (by rw [app_size, digit_size]; omega)
      refine ⟨t, Says.step (fun n => laws_markText_L4_eq n k s) (Says.pos (by omega) (Says.pos (by rw [digit_size]; omega) ?_))⟩
      rw [tdiv_nat, wrap_nat (by omega)]
      exact ht
theorem markText_ex (k : Nat) (h : k < 1000000000000) : ∃ t, Says (fun n => laws_markText n (k : Int)) t := by
  by_cases h0 : k = 0
  · subst h0
    exact ⟨_, Says.step (fun n => laws_markText_eq n 0) (Says.pos (by omega) (.now _))⟩
  · obtain ⟨t, ht⟩ := markText_L4 12 k noS (by omega) (by omega) (by decide)
    exact ⟨t, Says.step (fun n => laws_markText_eq n k) (Says.neg (by omega) ht)⟩
open Classical in
noncomputable def mt (k : Nat) : ByteArray := if h : ∃ t, Says (fun n => laws_markText n (k : Int)) t then h.choose else noS
theorem mt_says {k : Nat} (h : k < 1000000000000) : Says (fun n => laws_markText n (k : Int)) (mt k) := by
  unfold mt
  rw [dif_pos (markText_ex k h)]
  exact (markText_ex k h).choose_spec

theorem nth_set {t : Ty} {l : List t.den} {i : Nat} (h : i < l.length) (x : t.den) : nth t (l.set i x) i = x := by
  rw [nth_at (by simpa using h)]; simp

/-- what the marks are, one behind the other -/
def marks {t : Ty} (w : Nat) (mk : Nat → t.den) (k n : Nat) : List t.den := (List.range n).map fun j => mk (k + w * j)
theorem marks_len {t : Ty} (w : Nat) (mk : Nat → t.den) (k n : Nat) : (marks (t := t) w mk k n).length = n := by simp [marks]
theorem marks_get {t : Ty} {w : Nat} {mk : Nat → t.den} {k n i : Nat} (h : i < n) : nth t (marks (t := t) w mk k n) i = mk (k + w * i) := by
  rw [nth_at (by rw [marks_len]; exact h)]; simp [marks]

theorem mark_loop {t : Ty} {L : Nat → Nat → Int → Int → List t.den → Option (Int × List t.den)} (w : Nat) (mk : Nat → t.den)
    (hL : ∀ (N k i : Nat) (m : List t.den), i < N → m.length = N → N ≤ 1048576 → k < 100000000000 → ∀ r, Says (fun n => L n N ((k + w : Nat) : Int) ((i + 1 : Nat) : Int) (m.set i (mk k))) r → Says (fun n => L n N (k : Int) (i : Int) m) r)
    (hE : ∀ n (N k : Nat) (m : List t.den), L (n + 1) N (k : Int) (N : Int) m = some ((k : Int), m)) (hw : w ≤ 8) (k0 : Nat) :
    ∀ (q i : Nat) (m : List t.den), i + q = m.length → m.length ≤ 1048576 → k0 ≤ 1000000000 → m.take i = marks (t := t) w mk k0 i →
    Says (fun n => L n m.length ((k0 + w * i : Nat) : Int) (i : Int) m) (((k0 + w * m.length : Nat) : Int), marks (t := t) w mk k0 m.length)
  | 0, i, m, h, hl, hk, hm => by
    have : i = m.length := by omega
    subst this
    rw [← hm, List.take_length]
    exact Says.step (fun n => hE n m.length _ m) (.now _)
  | q + 1, i, m, h, hl, hk, hm => by
    refine hL m.length (k0 + w * i) i m (by omega) rfl hl ?_ _ ?_
    · have : w * i ≤ 8 * 1048576 := Nat.mul_le_mul hw (by omega)
      omega
    · have := mark_loop w mk hL hE hw k0 q (i + 1) (m.set i (mk (k0 + w * i))) (by simp; omega) (by simpa using hl) hk (by
        rw [take_set (by omega), hm]
        simp [marks, List.range_succ])
      simp only [List.length_set] at this
      rw [show k0 + w * (i + 1) = k0 + w * i + w by rw [Nat.mul_add]; omega] at this
      exact this
theorem held_loop {t : Ty} {L : Nat → List t.den → Int → Int → Option Int} (w : Nat) (mk : Nat → t.den)
    (hL : ∀ (l : List t.den) (k i : Nat), i < l.length → l.length ≤ 1048576 → k < 100000000000 → nth t l i = mk k → ∀ r, Says (fun n => L n l ((k + w : Nat) : Int) ((i + 1 : Nat) : Int)) r → Says (fun n => L n l (k : Int) (i : Int)) r)
    (hE : ∀ n (l : List t.den) (k : Nat), L (n + 1) l (k : Int) (l.length : Int) = some (k : Int)) (hw : w ≤ 8) (k0 N : Nat) (hN : N ≤ 1048576) (hk : k0 ≤ 1000000000) :
    ∀ (q i : Nat), i + q = N → Says (fun n => L n (marks (t := t) w mk k0 N) ((k0 + w * i : Nat) : Int) (i : Int)) ((k0 + w * N : Nat) : Int)
  | 0, i, h => by
    have : i = N := by omega
    subst this
    exact Says.step (fun n => by have := hE n (marks (t := t) w mk k0 i) (k0 + w * i); rw [marks_len] at this; exact this) (.now _)
  | q + 1, i, h => by
    refine hL _ (k0 + w * i) i (by rw [marks_len]; omega) (by rw [marks_len]; exact hN) ?_ (marks_get (by omega)) _ ?_
    · have : w * i ≤ 8 * 1048576 := Nat.mul_le_mul hw (by omega)
      omega
    · have := held_loop w mk hL hE hw k0 N hN hk q (i + 1) (by omega)
      rw [show k0 + w * (i + 1) = k0 + w * i + w by rw [Nat.mul_add]; omega] at this
      exact this

end Go.Proofs.YtmojilihllhadaaGreatDoor.Ev
