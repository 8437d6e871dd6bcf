/- The program's table of common lines (commons): what it lays, walked by hand. -/
import Derived.Test.YtmojilihllhadaaGreatDoorProg
import Derived.WalkKit
import Derived.Deep.LoopGhost
import Derived.Deep.OwnRows
import Derived.Deep.Light
import Derived.BigGuard
import Derived.CellFam
import Derived.Lib.Strings
namespace Go.Proofs.YtmojilihllhadaaGreatDoor.Tab
open Go Go.RowKit
set_option linter.unusedVariables false
set_option linter.unusedSimpArgs false

theorem infoS : (Tryz.prog.info? 136).map (fun i => (i.zero, i.size, i.bytes)) = some (some (.slice none 0 0), 1, 24) := by kernel_rfl
theorem infoI : (Tryz.prog.info? 2).map (fun i => (i.zero, i.size, i.bytes)) = some (some (.int .i64 0), 1, 8) := by kernel_rfl

/-- the outer row, r rows made -/
def top (N C r : Nat) : Nat → Value := fun j => if j < r then .slice (some ⟨N + 1 + j, 0, none⟩) C C else .slice none 0 0
/-- r rows are made -/
structure Made (w wr : World) (G C r : Nat) : Prop where
  since : w.Since w.heap.size wr
  size : wr.heap.size = w.heap.size + 1 + r
  top : wr.rowIs w.heap.size 136 G (top w.heap.size C r)
  rows : ∀ j, j < r → wr.rowIs (w.heap.size + 1 + j) 2 C (fun c => .int .i64 0)
theorem made_start (w : World) (G C : Nat) : Made w (w.alloc (.cells (madeCells #[.slice none 0 0] G) 136)) G C 0 :=
  ⟨(World.Since.refl _ _).alloc (Nat.le_refl _) _, by simp, (World.rowIs_made w _ G 136).congr (fun j _ => by simp [Tab.top]), fun j hj => absurd hj (Nat.not_lt_zero _)⟩
theorem made_step {w wr : World} {G C r : Nat} (h : Made w wr G C r) :
    Made w ((wr.alloc (.cells (madeCells #[.int .i64 0] C) 2)).setCell ⟨w.heap.size, r, none⟩ (.slice (some ⟨w.heap.size + 1 + r, 0, none⟩) C C)) G C (r + 1) := by
  have hnew := World.rowIs_made wr (.int .i64 0) C 2
  rw [h.size] at hnew
  refine ⟨(h.since.alloc (by rw [h.size]; omega) _).setCell (Nat.le_refl _) _, by simp [h.size]; omega, ((h.top.alloc _).set r _).congr (fun j _ => ?_), fun j hj => ?_⟩
  · simp only [Tab.top]
    by_cases e : j = r
    · subst e; simp
    · rw [if_neg e]
      by_cases hlt : j < r
      · rw [if_pos hlt, if_pos (by omega)]
      · rw [if_neg hlt, if_neg (by omega)]
  · by_cases e : j = r
    · subst e
      exact hnew.setOther (by show w.heap.size + 1 + j ≠ w.heap.size; omega) _
    · exact ((h.rows j (by omega)).alloc _).setOther (by show w.heap.size + 1 + j ≠ w.heap.size; omega) _

/-- what is filled: the rows from k on, and of row k - 1 the cells from m on -/
def Z (T : Nat → Nat → Int) (k m j c : Nat) : Int := if k ≤ j ∨ (j + 1 = k ∧ m ≤ c) then T j c else 0
structure Tb (w wi : World) (G C : Nat) (Q : Nat → Nat → Int) : Prop where
  since : w.Since w.heap.size wi
  top : wi.rowIs w.heap.size 136 G (fun j => .slice (some ⟨w.heap.size + 1 + j, 0, none⟩) C C)
  rows : ∀ j, j < G → wi.rowIs (w.heap.size + 1 + j) 2 C (fun c => .int .i64 (Q j c))
theorem Tb.congr {w wi : World} {G C : Nat} {Q R : Nat → Nat → Int} (h : Tb w wi G C Q) (e : ∀ j c, j < G → c < C → Q j c = R j c) : Tb w wi G C R :=
  ⟨h.since, h.top, fun j hj => (h.rows j hj).congr fun c hc => by rw [e j c hj hc]⟩
theorem Tb.drew {w wi : World} {G C : Nat} {Q : Nat → Nat → Int} (h : Tb w wi G C Q) : Tb w wi.drew G C Q := ⟨h.since.drew, h.top.drew, fun j hj => (h.rows j hj).drew⟩
theorem made_done {w wr : World} {n1 n2 : Nat} {T : Nat → Nat → Int} (h : Made w wr (n1 + 1) (n2 + 1) (n1 + 1)) (h0 : ∀ c, T n1 c = 0) : Tb w wr (n1 + 1) (n2 + 1) (Z T n1 (n2 + 1)) :=
  ⟨h.since, h.top.congr fun j hj => by simp only [Tab.top]; rw [if_pos hj], fun j hj => (h.rows j hj).congr fun c hc => by
    unfold Z
    by_cases e : n1 ≤ j
    · rw [if_pos (.inl e), show j = n1 by omega, h0]
    · rw [if_neg (by omega)]⟩
/-- a store -/
theorem Tb.set {w wi : World} {G C : Nat} {Q : Nat → Nat → Int} (h : Tb w wi G C Q) {i : Nat} (hi : i < G) (c : Nat) (v : Int) :
    Tb w (wi.setCell ⟨w.heap.size + 1 + i, c, none⟩ (.int .i64 v)) G C (fun j b => if j = i ∧ b = c then v else Q j b) := by
  refine ⟨h.since.setCell (by show w.heap.size ≤ w.heap.size + 1 + i; omega) _, h.top.setOther (by show w.heap.size ≠ w.heap.size + 1 + i; omega) _, fun j hj => ?_⟩
  by_cases e : j = i
  · subst e
    refine ((h.rows j hj).set c _).congr fun b hb => ?_
    by_cases eb : b = c
    · rw [if_pos eb, if_pos ⟨rfl, eb⟩]
    · rw [if_neg eb, if_neg fun h => eb h.2]
  · refine ((h.rows j hj).setOther (by show w.heap.size + 1 + j ≠ w.heap.size + 1 + i; omega) _).congr fun b hb => ?_
    rw [if_neg fun h => e h.1]

structure Lcs (T : Nat → Nat → Int) (n1 n2 : Nat) (S1 S2 : Nat → ByteArray) : Prop where
  low : ∀ i j, 0 ≤ T i j
  high : ∀ i j, T i j ≤ 100000
  end1 : ∀ j, T n1 j = 0
  end2 : ∀ i, T i n2 = 0
  lip : ∀ i j, i < n1 → j < n2 → T (i + 1) j ≤ T (i + 1) (j + 1) + 1 ∧ T i (j + 1) ≤ T (i + 1) (j + 1) + 1
  step : ∀ i j, i < n1 → j < n2 → T i j = if S1 i = S2 j then T (i + 1) (j + 1) + 1 else max (T (i + 1) j) (T i (j + 1))

theorem z_in {T : Nat → Nat → Int} {i n2 j c : Nat} (h : ∀ i, T i n2 = 0) (hc : c < n2 + 1) : Z T (i + 1) (n2 + 1) j c = Z T (i + 1) n2 j c := by
  unfold Z
  by_cases e : i + 1 ≤ j
  · rw [if_pos (.inl e), if_pos (.inl e)]
  · rw [if_neg (by omega)]
    by_cases e2 : j + 1 = i + 1 ∧ n2 ≤ c
    · rw [if_pos (.inr e2), show c = n2 by omega, h]
    · rw [if_neg (by omega)]
theorem z_out {T : Nat → Nat → Int} {i n2 j c : Nat} (hc : c < n2 + 1) : Z T (i + 1) 0 j c = Z T i (n2 + 1) j c := by
  unfold Z
  by_cases e : i ≤ j
  · rw [if_pos (by omega), if_pos (.inl e)]
  · rw [if_neg (by omega), if_neg (by omega)]
theorem z_store {T : Nat → Nat → Int} {i j p q : Nat} {v : Int} (h : v = T i j) : (if p = i ∧ q = j then v else Z T (i + 1) (j + 1) p q) = Z T (i + 1) j p q := by
  unfold Z
  by_cases e : p = i ∧ q = j
  · rw [if_pos e, if_pos (by omega), e.1, e.2, h]
  · rw [if_neg e]
    by_cases e2 : i + 1 ≤ p ∨ (p + 1 = i + 1 ∧ j + 1 ≤ q)
    · rw [if_pos e2, if_pos (by omega)]
    · rw [if_neg e2, if_neg (by omega)]
theorem z_store2 {T : Nat → Nat → Int} {i j p q : Nat} {v u : Int} (h : v = T i j) : (if p = i ∧ q = j then v else if p = i ∧ q = j then u else Z T (i + 1) (j + 1) p q) = Z T (i + 1) j p q := by
  rw [← z_store (p := p) (q := q) h]
  by_cases e : p = i ∧ q = j
  · rw [if_pos e, if_pos e]
  · rw [if_neg e, if_neg e, if_neg e]
theorem max_if (a b : Int) : (if a < b then b else a) = max a b := by
  split <;> omega
theorem toList_inj {a b : ByteArray} (h : a.toList = b.toList) : a = b := by
  have e : ∀ c : ByteArray, c.toList = c.data.toList := fun c => Go.Lib.toList_data c
  rw [e, e] at h
  cases a; cases b
  simpa using h
set_option maxHeartbeats 6400000 in
set_option maxRecDepth 1000000 in
theorem commons_walk (A1 A2 : Option Addr) (b1 o1 b2 o2 n1 c1 n2 c2 : Nat) (S1 S2 : Nat → ByteArray) (T : Nat → Nat → Int) (w : World)
    (h1 : 0 < n1 → A1 = some ⟨b1, o1, none⟩) (h2 : 0 < n2 → A2 = some ⟨b2, o2, none⟩) (hn1 : n1 ≤ 50000) (hn2 : n2 ≤ 50000)
    (hc1 : ∀ r, r < n1 → w.cell? ⟨b1, o1 + r, none⟩ = some (.string (S1 r))) (hc2 : ∀ r, r < n2 → w.cell? ⟨b2, o2 + r, none⟩ = some (.string (S2 r))) (hT : Lcs T n1 n2 S1 S2) :
    Calls Tryz.prog 302 #[.slice A1 n1 c1, .slice A2 n2 c2] w fun e w' => e = .returned (.slice (some ⟨w.heap.size, 0, none⟩) (n1 + 1 : Nat) (n1 + 1 : Nat)) ∧ Tb w w' (n1 + 1) (n2 + 1) T := by
  have hmk1 : ∀ w : World, (Instr.makeSlice 286 (.int .i64 ((n1 : Int) + 1)) (.int .i64 ((n1 : Int) + 1))).run Tryz.prog w = .ok (.slice (some ⟨w.heap.size, 0, none⟩) (n1 + 1) (n1 + 1)) (w.alloc (.cells (madeCells #[.slice none 0 0] (n1 + 1)) 136)) :=
    run_make_row' (P := Tryz.prog) 286 136 (.slice none 0 0) 24 Tryz.underlying286 infoS rfl .i64 .i64 (n1 + 1) (by omega) (by omega)
  go_enter Tryz.func302, Tryz.ntmps302
  go_wp2
  clear hmk1
  -- the rows are made
  go_loopg [15] (n1 + 1) (fun g i wr => ∃ r : Nat, r ≤ n1 + 1 ∧ g = n1 + 1 - r ∧ i = .int .i64 r ∧ Made w wr (n1 + 1) (n2 + 1) r)
  case atStart => exact ⟨0, Nat.zero_le _, rfl, rfl, made_start w _ _⟩
  case round =>
    obtain ⟨r, hr, rfl, rfl, hM⟩ := hrel
    by_cases hrG : r < n1 + 1
    · have hrz : (r : Int) < (n1 : Int) + 1 := by omega
      have hsize := hM.size
      have hmk2 : ∀ w : World, (Instr.makeSlice 136 (.int .i64 ((n2 : Int) + 1)) (.int .i64 ((n2 : Int) + 1))).run Tryz.prog w = .ok (.slice (some ⟨w.heap.size, 0, none⟩) (n2 + 1) (n2 + 1)) (w.alloc (.cells (madeCells #[.int .i64 0] (n2 + 1)) 2)) :=
        run_make_row' (P := Tryz.prog) 136 2 (.int .i64 0) 8 Tryz.underlying136 infoI rfl .i64 .i64 (n2 + 1) (by omega) (by omega)
      have hst1 : ∀ o, (wr.alloc o).cell? ⟨w.heap.size, r, none⟩ = some (Tab.top w.heap.size (n2 + 1) r r) := fun o => (hM.top.alloc o).cell hrG
      have hst2 : ∀ o, (wr.alloc o).frozen? ⟨w.heap.size, r, none⟩ = false := fun o => (hM.top.alloc o).frozen r
      go_wp2
      go_roundg (n1 + 1 - (r + 1))
      case measure => go_light; omega
      case rel => go_light; exact ⟨r + 1, by omega, rfl, rfl, made_step hM⟩
    · have hre : r = n1 + 1 := by omega
      subst hre
      have hrz : ¬ ((n1 : Int) + 1 < (n1 : Int) + 1) := by omega
      have hB0 : Tb w wr (n1 + 1) (n2 + 1) (Z T n1 (n2 + 1)) := made_done hM hT.end1
      clear hM hrG
      go_wp2
      -- row by row, from the last
      go_loopg [7] n1 (fun k i wr => k ≤ n1 ∧ i = .int .i64 ((k : Int) - 1) ∧ Tb w wr (n1 + 1) (n2 + 1) (Z T k (n2 + 1)))
      case atStart => exact ⟨Nat.le_refl _, rfl, hB0⟩
      case round =>
        obtain ⟨hk, rfl, hB⟩ := hrel
        clear hB0
        cases gk with
        | zero =>
          go_wp2
          go_ret
          exact ⟨rfl, hB.congr fun j c _ _ => by unfold Z; rw [if_pos (.inl (Nat.zero_le _))]⟩
        | succ i =>
          have e1 : ((i + 1 : Nat) : Int) - 1 = (i : Int) := by omega
          rw [e1]
          clear e1
          have e2 : (0 : Int) ≤ (i : Int) := by omega
          obtain rfl := h1 (by omega)
          go_wp2
          go_loopg [8] n2 (fun m j wi => m ≤ n2 ∧ j = .int .i64 ((m : Int) - 1) ∧ Tb w wi (n1 + 1) (n2 + 1) (Z T (i + 1) m))
          case atStart => exact ⟨Nat.le_refl _, rfl, hB.congr fun j c hj hc => z_in hT.end2 hc⟩
          case round =>
            obtain ⟨hm, rfl, hC⟩ := hrel
            clear hB
            cases gk with
            | zero =>
              go_wp2
              go_roundg i
              case measure => go_light; omega
              case rel => go_light; exact ⟨by omega, rfl, hC.congr fun j c hj hc => z_out hc⟩
            | succ j =>
              have e1 : ((j + 1 : Nat) : Int) - 1 = (j : Int) := by omega
              rw [e1]
              clear e1
              have e3 : (0 : Int) ≤ (j : Int) := by omega
              obtain rfl := h2 (by omega)
              have t1 : wr.cell? ⟨w.heap.size, i, none⟩ = some (.slice (some ⟨w.heap.size + 1 + i, 0, none⟩) (n2 + 1) (n2 + 1)) := hC.top.cell (by omega)
              have t2 : wr.cell? ⟨w.heap.size, i + 1, none⟩ = some (.slice (some ⟨w.heap.size + 1 + (i + 1), 0, none⟩) (n2 + 1) (n2 + 1)) := hC.top.cell (by omega)
              have t3 : wr.cell? ⟨w.heap.size + 1 + (i + 1), j, none⟩ = some (.int .i64 (T (i + 1) j)) := by rw [(hC.rows (i + 1) (by omega)).cell (by omega)]; unfold Z; rw [if_pos (.inl (Nat.le_refl _))]
              have t4 : wr.cell? ⟨w.heap.size + 1 + i, j + 1, none⟩ = some (.int .i64 (T i (j + 1))) := by rw [(hC.rows i (by omega)).cell (by omega)]; unfold Z; rw [if_pos (.inr ⟨rfl, Nat.le_refl _⟩)]
              have t5 : wr.cell? ⟨w.heap.size + 1 + i, j, none⟩ = some (.int .i64 0) := by rw [(hC.rows i (by omega)).cell (by omega)]; unfold Z; rw [if_neg (by omega)]
              have t6 : wr.frozen? ⟨w.heap.size + 1 + i, j, none⟩ = false := (hC.rows i (by omega)).frozen j
              obtain ⟨V, hV⟩ : ∃ V, (if T (i + 1) j < T i (j + 1) then T i (j + 1) else T (i + 1) j) = V := ⟨_, rfl⟩
              go_wp2_with fail
              go_big_region
              go_wp2_with fail
              have hD := (hC.set (i := i) (by omega) j V).drew
              generalize (wr.setCell ⟨w.heap.size + 1 + i, j, none⟩ (.int .i64 V)).drew = wq at hD
              have HV : Aside ((if T (i + 1) j < T i (j + 1) then T i (j + 1) else T (i + 1) j) = V) := hV
              clear hV
              clear t1 t2 t3 t4 t5 t6 hC
              have s1 : wq.cell? ⟨b1, o1 + i, none⟩ = some (.string (S1 i)) := by
                have := hc1 i (by omega)
                rw [hD.since.cell (a := ⟨b1, o1 + i, none⟩) (World.block_lt_of_cell? _ _ this)]; exact this
              have s2 : wq.cell? ⟨b2, o2 + j, none⟩ = some (.string (S2 j)) := by
                have := hc2 j (by omega)
                rw [hD.since.cell (a := ⟨b2, o2 + j, none⟩) (World.block_lt_of_cell? _ _ this)]; exact this
              clear hc1 hc2
              clear h2
              cases heq : ((S1 i).toList == (S2 j).toList) with
              | false =>
                have hs : S1 i ≠ S2 j := fun e => by rw [e] at heq; simp at heq
                go_big_region
                go_wp2_with fail
                go_roundg j
                case measure => go_light; omega
                case rel =>
                  go_light
                  refine ⟨by omega, rfl, hD.drew.congr fun p q _ _ => z_store ?_⟩
                  rw [hT.step i j (by omega) (by omega), if_neg hs, ← HV.out, max_if]
              | true =>
                have hs : S1 i = S2 j := toList_inj (eq_of_beq heq)
                go_big_region
                go_wp2_with fail
                have u1 : wq.cell? ⟨w.heap.size, i, none⟩ = some (.slice (some ⟨w.heap.size + 1 + i, 0, none⟩) (n2 + 1) (n2 + 1)) := hD.top.cell (by omega)
                have u2 : wq.cell? ⟨w.heap.size, i + 1, none⟩ = some (.slice (some ⟨w.heap.size + 1 + (i + 1), 0, none⟩) (n2 + 1) (n2 + 1)) := hD.top.cell (by omega)
                have u3 : wq.cell? ⟨w.heap.size + 1 + (i + 1), j + 1, none⟩ = some (.int .i64 (T (i + 1) (j + 1))) := by
                  rw [(hD.rows (i + 1) (by omega)).cell (by omega)]
                  unfold Z
                  rw [if_neg (by omega), if_pos (.inl (Nat.le_refl _))]
                have u4 : wq.cell? ⟨w.heap.size + 1 + i, j, none⟩ = some (.int .i64 V) := by
                  rw [(hD.rows i (by omega)).cell (by omega)]
                  rw [if_pos ⟨rfl, rfl⟩]
                have u5 : wq.frozen? ⟨w.heap.size + 1 + i, j, none⟩ = false := (hD.rows i (by omega)).frozen j
                have p1 := hT.low (i + 1) (j + 1)
                have p2 := hT.high (i + 1) (j + 1)
                obtain ⟨U, hU⟩ : ∃ U, T (i + 1) (j + 1) = U := ⟨_, rfl⟩
                rw [hU] at u3 p1 p2
                have HU : Aside (T (i + 1) (j + 1) = U) := hU
                have Hs : Aside (S1 i = S2 j) := hs
                clear hU s1 s2 heq hs
                go_big_region
                go_wp2
                go_roundg j
                case measure => go_light; omega
                case rel =>
                  go_light
                  refine ⟨by omega, rfl, ((hD.set (i := i) (by omega) j (U + 1)).drew.drew).congr fun p q _ _ => z_store2 ?_⟩
                  rw [hT.step i j (by omega) (by omega), if_pos Hs.out, HU.out]
end Go.Proofs.YtmojilihllhadaaGreatDoor.Tab
