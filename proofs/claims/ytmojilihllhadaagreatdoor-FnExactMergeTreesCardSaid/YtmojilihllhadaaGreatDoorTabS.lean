/- The specification's table of common lines (l2Table): what it lays, walked by hand. -/
import Derived.Test.YtmojilihllhadaaGreatDoorTabI
import Derived.Maps.AppendAt
import Derived.Deep.QuietTactic
import Derived.Deep.Quiet
namespace Go.Proofs.YtmojilihllhadaaGreatDoor.Tab
open Go Go.RowKit Go.Deep
set_option linter.unusedVariables false
set_option linter.unusedSimpArgs false

/-- r rows are made; row j lies in block R j -/
structure MadeS (w wr : World) (v : Value) (R : Nat → Nat) (C r : Nat) : Prop where
  since : w.Since w.heap.size wr
  own : wr.ownsRow w.heap.size 136 1 v r ((List.range r).map fun j => .slice (some ⟨R j, 0, none⟩) C C)
  low : ∀ j, j < r → w.heap.size ≤ R j
  inj : ∀ j k, j < r → k < r → R j = R k → j = k
  rows : ∀ j, j < r → wr.rowIs (R j) 2 C (fun c => .int .i64 0)
/-- the table, wherever its rows lie -/
structure TbS (w wi : World) (g : Nat) (R : Nat → Nat) (G C : Nat) (Q : Nat → Nat → Int) : Prop where
  since : w.Since w.heap.size wi
  gl : w.heap.size ≤ g
  top : ∀ j, j < G → wi.cell? ⟨g, j, none⟩ = some (.slice (some ⟨R j, 0, none⟩) C C)
  ne : ∀ j, j < G → g ≠ R j
  low : ∀ j, j < G → w.heap.size ≤ R j
  inj : ∀ j k, j < G → k < G → R j = R k → j = k
  rows : ∀ j, j < G → wi.rowIs (R j) 2 C (fun c => .int .i64 (Q j c))
theorem TbS.congr {w wi : World} {g : Nat} {R : Nat → Nat} {G C : Nat} {Q P : Nat → Nat → Int} (h : TbS w wi g R G C Q) (e : ∀ j c, j < G → c < C → Q j c = P j c) : TbS w wi g R G C P :=
  ⟨h.since, h.gl, h.top, h.ne, h.low, h.inj, fun j hj => (h.rows j hj).congr fun c hc => by rw [e j c hj hc]⟩
theorem TbS.drew {w wi : World} {g : Nat} {R : Nat → Nat} {G C : Nat} {Q : Nat → Nat → Int} (h : TbS w wi g R G C Q) : TbS w wi.drew g R G C Q :=
  ⟨h.since.drew, h.gl, h.top, h.ne, h.low, h.inj, fun j hj => (h.rows j hj).drew⟩
theorem TbS.set {w wi : World} {g : Nat} {R : Nat → Nat} {G C : Nat} {Q : Nat → Nat → Int} (h : TbS w wi g R G C Q) {i : Nat} (hi : i < G) (c : Nat) (v : Int) :
    TbS w (wi.setCell ⟨R i, c, none⟩ (.int .i64 v)) g R G C (fun j b => if j = i ∧ b = c then v else Q j b) := by
  refine ⟨h.since.setCell (h.low i hi) _, h.gl, fun j hj => ?_, h.ne, h.low, h.inj, fun j hj => ?_⟩
  · rw [World.cell?_setCell_other _ _ _ _ (fun e => h.ne i hi (by have := congrArg Addr.block e; simpa using this.symm))]
    exact h.top j hj
  · by_cases e : j = i
    · subst e
      refine ((h.rows j hj).set c _).congr fun b hb => ?_
      by_cases eb : b = c
      · rw [if_pos eb, if_pos ⟨rfl, eb⟩]
      · rw [if_neg eb, if_neg fun h => eb h.2]
    · refine ((h.rows j hj).setOther (fun e2 => e (h.inj j i hj hi e2)) _).congr fun b hb => ?_
      rw [if_neg fun h => e h.1]
theorem TbS.drewN {w wi : World} {g : Nat} {R : Nat → Nat} {G C : Nat} {Q : Nat → Nat → Int} (h : TbS w wi g R G C Q) : ∀ n, TbS w (wi.drewN n) g R G C Q
  | 0 => h
  | n + 1 => (h.drewN n).drew
theorem max_if' (a b : Int) : (if b < a then a else b) = max a b := by
  split <;> omega
theorem Tb.toS {w wi : World} {G C : Nat} {Q : Nat → Nat → Int} (h : Tb w wi G C Q) : TbS w wi w.heap.size (fun j => w.heap.size + 1 + j) G C Q :=
  ⟨h.since, Nat.le_refl _, fun j hj => h.top.cell hj, fun j hj => by omega, fun j hj => by omega, fun j k _ _ e => by omega, h.rows⟩

theorem ne_own {wr : World} {v : Value} {b r C N : Nat} {xs : List Value} {f : Nat → Value} (h : wr.ownsRow N 136 1 v r xs) (hr : wr.rowIs b 2 C f) : some b ≠ v.ownBlock := by
  intro e
  rcases h.2 with ⟨rfl, _⟩ | ⟨g, cap, cur, rfl, _, hg, _⟩
  · cases e
  · have e : some b = some g := e
    cases e
    obtain ⟨c, hc, _⟩ := hr
    rw [hc] at hg
    simp at hg
theorem new_cell (wr : World) (o : Obj) (x : Value) : ∀ j u, [x][j]? = some u → ((wr.alloc o).alloc (.cells #[x] 136)).cell? ((⟨wr.heap.size + 1, 0, none⟩ : Addr).add j) = some u := by
  have := cell_one_new (wr.alloc o) x 136
  simpa using this
theorem madeS_start (w : World) (R : Nat → Nat) (C : Nat) : MadeS w (w.alloc (.cells #[] 136)) (.slice (some ⟨w.heap.size, 0, none⟩) 0 0) R C 0 :=
  ⟨(World.Since.refl _ _).alloc (Nat.le_refl _) _, ⟨rfl, .inr ⟨w.heap.size, 0, #[], rfl, Nat.le_refl _, blk_alloc_new _ _, Nat.le_refl _, by unfold maxLen; omega, rfl, rfl⟩⟩,
    fun j hj => absurd hj (Nat.not_lt_zero _), fun j k hj => absurd hj (Nat.not_lt_zero _), fun j hj => absurd hj (Nat.not_lt_zero _)⟩
theorem madeS_step {w wr w1 : World} {v v1 : Value} {R : Nat → Nat} {C r : Nat} {o : Obj} (h : MadeS w wr v R C r)
    (ho : w1.ownsRow w.heap.size 136 1 v1 (r + 1) (((List.range r).map fun j => .slice (some ⟨R j, 0, none⟩) C C) ++ [.slice (some ⟨wr.heap.size, 0, none⟩) C C]))
    (hg : ((wr.alloc (.cells (madeCells #[.int .i64 0] C) 2)).alloc o).grownBy w1 v.ownBlock) : MadeS w w1 v1 (fun j => if j = r then wr.heap.size else R j) C (r + 1) := by
  have hs := h.since.size
  have hlt : ∀ j, j < r → R j < wr.heap.size := fun j hj => (h.rows j hj).lt
  refine ⟨((h.since.alloc (by omega) _).alloc (by simp; omega) _).grown hg (by simp; omega) (fun k hk => (h.own.lt k hk).1), ?_, fun j hj => ?_, fun j k hj hk e => ?_, fun j hj => ?_⟩
  · have e : (List.range (r + 1)).map (fun j => Value.slice (some ⟨if j = r then wr.heap.size else R j, 0, none⟩) C C) = ((List.range r).map fun j => .slice (some ⟨R j, 0, none⟩) C C) ++ [.slice (some ⟨wr.heap.size, 0, none⟩) C C] := by
      rw [List.range_succ, List.map_append]
      congr 1
      · refine List.map_congr_left fun j hj => ?_
        have := List.mem_range.1 hj
        rw [if_neg (by omega)]
      · simp
    rw [e]; exact ho
  · show w.heap.size ≤ if j = r then wr.heap.size else R j
    split
    · exact hs
    · exact h.low j (by omega)
  · by_cases e1 : j = r
    · by_cases e2 : k = r
      · omega
      · rw [if_pos e1, if_neg e2] at e
        have := hlt k (by omega)
        omega
    · by_cases e2 : k = r
      · rw [if_neg e1, if_pos e2] at e
        have := hlt j (by omega)
        omega
      · rw [if_neg e1, if_neg e2] at e
        exact h.inj j k (by omega) (by omega) e
  · by_cases e1 : j = r
    · simp only [if_pos e1]
      have hn := (World.rowIs_made wr (.int .i64 0) C 2).alloc o
      refine hn.of_block (hg.block _ hn.lt fun e => ?_)
      have := (h.own.lt _ e.symm).2
      omega
    · simp only [if_neg e1]
      have hn := h.rows j (by omega)
      have hn2 := (hn.alloc (.cells (madeCells #[.int .i64 0] C) 2)).alloc o
      exact hn2.of_block (hg.block _ hn2.lt (ne_own h.own hn))
theorem madeS_done {w wr : World} {n1 n2 : Nat} {v : Value} {R : Nat → Nat} {T : Nat → Nat → Int} (h : MadeS w wr v R (n2 + 1) (n1 + 1)) (h0 : ∀ c, T n1 c = 0) :
    ∃ g cap, v = .slice (some ⟨g, 0, none⟩) (n1 + 1 : Nat) cap ∧ n1 + 1 ≤ cap ∧ TbS w wr g R (n1 + 1) (n2 + 1) (Z T n1 (n2 + 1)) := by
  have ho := h.own
  rcases ho.2 with ⟨_, h2⟩ | ⟨g, cap, cur, rfl, hb, hg, hc, _⟩
  · omega
  · refine ⟨g, cap, rfl, hc, h.since, hb, fun j hj => ?_, fun j hj e => ?_, h.low, h.inj, fun j hj => (h.rows j hj).congr fun c hc => ?_⟩
    · rw [ho.cellAt j (by omega)]
      rw [List.getElem?_map, List.getElem?_range hj]
      rfl
    · exact ne_own ho (h.rows j hj) (by rw [← e]; rfl)
    · unfold Z
      by_cases e : n1 ≤ j
      · rw [if_pos (.inl e), show j = n1 by omega, h0]
      · rw [if_neg (by omega)]

set_option maxHeartbeats 6400000 in
set_option maxRecDepth 1000000 in
theorem max_walk (a b : Int) (w : World) : Calls Tryz.prog 327 #[.int .i64 a, .int .i64 b] w fun e w' => e = .returned (.int .i64 (if b < a then a else b)) ∧ w' = w := by
  go_enter Tryz.func327, Tryz.ntmps327
  by_cases h : b < a
  · go_wp2
    go_ret
    exact ⟨rfl, rfl⟩
  · go_wp2
    go_ret
    exact ⟨rfl, rfl⟩

set_option maxHeartbeats 6400000 in
set_option maxRecDepth 1000000 in
theorem table_walk (A1 A2 : Option Addr) (b1 o1 b2 o2 n1 c1 n2 c2 : Nat) (S1 S2 : Nat → ByteArray) (T : Nat → Nat → Int) (w : World)
    (h1 : 0 < n1 → A1 = some ⟨b1, o1, none⟩) (h2 : 0 < n2 → A2 = some ⟨b2, o2, none⟩) (hn1 : n1 ≤ 50000) (hn2 : n2 ≤ 50000)
    (hc1 : ∀ r, r < n1 → w.cell? ⟨b1, o1 + r, none⟩ = some (.string (S1 r))) (hc2 : ∀ r, r < n2 → w.cell? ⟨b2, o2 + r, none⟩ = some (.string (S2 r))) (hT : Lcs T n1 n2 S1 S2) :
    Calls Tryz.prog 315 #[.slice A1 n1 c1, .slice A2 n2 c2] w fun e w' => ∃ g cap R, e = .returned (.slice (some ⟨g, 0, none⟩) (n1 + 1 : Nat) cap) ∧ n1 + 1 ≤ cap ∧ TbS w w' g R (n1 + 1) (n2 + 1) T := by
  obtain ⟨i0, hi, hz0, hz1, hz2⟩ : ∃ i0, Tryz.prog.info? 136 = some i0 ∧ i0.zero = some (.slice none 0 0) ∧ i0.size = 1 ∧ i0.bytes = 24 := by
    have := infoS
    cases h : Tryz.prog.info? 136 with
    | none => rw [h] at this; cases this
    | some i => rw [h] at this; simp at this; exact ⟨i, rfl, this.1, this.2.1, this.2.2⟩
  go_enter Tryz.func315, Tryz.ntmps315
  go_wp2
  -- the rows are made
  go_loopg [5, 6] (n1 + 1) (fun g v i wr => ∃ (r : Nat) (R : Nat → Nat), r ≤ n1 + 1 ∧ g = n1 + 1 - r ∧ i = .int .i64 r ∧ MadeS w wr v R (n2 + 1) r)
  case atStart => exact ⟨0, fun _ => 0, Nat.zero_le _, rfl, rfl, madeS_start w _ _⟩
  case round =>
    obtain ⟨r, R, hr, rfl, rfl, hM⟩ := hrel
    by_cases hrG : r < n1 + 1
    · have hrz : (r : Int) ≤ (n1 : Int) := by omega
      have hsize := hM.since.size
      have hmk2 : ∀ w : World, (Instr.makeSlice 136 (.int .i64 ((n2 : Int) + 1)) (.int .i64 ((n2 : Int) + 1))).run Tryz.prog w = .ok (.slice (some ⟨w.heap.size, 0, none⟩) (n2 + 1) (n2 + 1)) (w.alloc (.cells (madeCells #[.int .i64 0] (n2 + 1)) 2)) :=
        run_make_row' (P := Tryz.prog) 136 2 (.int .i64 0) 8 Tryz.underlying136 infoI rfl .i64 .i64 (n2 + 1) (by omega) (by omega)
      go_wp2_with (at_builtin; refine wpList_append_own _ rfl (.tmp 17) (.tmp 22) 286 rfl w.heap.size 136 i0 (.slice none 0 0) 1 24 Tryz.underlying286 hi hz0 hz1 hz2 rfl (by decide) _ _ _ rfl ((hM.own.alloc _).alloc _) ⟨wr.heap.size + 1, 0, none⟩ 1 1 [.slice (some ⟨wr.heap.size, 0, none⟩) (n2 + 1) (n2 + 1)] rfl rfl (new_cell _ _ _) (by intro u hu; simp at hu; subst hu; rfl) (by unfold maxLen; omega) (by omega) (by simp; omega) ?_; intro v1 w1 hown1 hgrow1 hnil1)
      go_roundg (n1 + 1 - (r + 1))
      case measure => go_light; omega
      case rel => go_light; exact ⟨r + 1, _, by omega, rfl, rfl, madeS_step hM hown1 hgrow1⟩
    · have hre : r = n1 + 1 := by omega
      subst hre
      have hrz : ¬ ((n1 : Int) + 1 ≤ (n1 : Int)) := by omega
      obtain ⟨g, cap, rfl, hcap, hB0⟩ := madeS_done (T := T) hM hT.end1
      clear hM hrG
      go_wp2
      -- row by row, from the last
      go_loopg [7] n1 (fun k i wr => k ≤ n1 ∧ i = .int .i64 ((k : Int) - 1) ∧ TbS w wr g R (n1 + 1) (n2 + 1) (Z T k (n2 + 1)))
      case atStart => exact ⟨Nat.le_refl _, rfl, hB0⟩
      case round =>
        obtain ⟨hk, rfl, hB⟩ := hrel
        clear hB0
        cases gk with
        | zero =>
          go_wp2
          go_ret
          exact ⟨g, cap, R, rfl, hcap, hB.congr fun j c _ _ => by unfold Z; rw [if_pos (.inl (Nat.zero_le _))]⟩
        | succ i =>
          have e1 : ((i + 1 : Nat) : Int) - 1 = (i : Int) := by omega
          rw [e1]
          clear e1
          have e2 : (0 : Int) ≤ (i : Int) := by omega
          obtain rfl := h1 (by omega)
          go_wp2
          go_loopg [8] n2 (fun m j wi => m ≤ n2 ∧ j = .int .i64 ((m : Int) - 1) ∧ TbS w wi g R (n1 + 1) (n2 + 1) (Z T (i + 1) m))
          case atStart => exact ⟨Nat.le_refl _, rfl, hB.congr fun j c hj hc => z_in hT.end2 hc⟩
          case round =>
            obtain ⟨hm, rfl, hC⟩ := hrel
            clear hB
            cases gk with
            | zero =>
              go_wp2
              go_roundg i
              case measure => go_light; omega
              case rel => go_light; exact ⟨by omega, rfl, hC.congr fun j c hj hc => z_out hc⟩
            | succ j =>
              have e1 : ((j + 1 : Nat) : Int) - 1 = (j : Int) := by omega
              rw [e1]
              clear e1
              have e3 : (0 : Int) ≤ (j : Int) := by omega
              obtain rfl := h2 (by omega)
              have t1 : wr.cell? ⟨g, i, none⟩ = some (.slice (some ⟨R i, 0, none⟩) (n2 + 1) (n2 + 1)) := hC.top i (by omega)
              have t2 : wr.cell? ⟨g, i + 1, none⟩ = some (.slice (some ⟨R (i + 1), 0, none⟩) (n2 + 1) (n2 + 1)) := hC.top (i + 1) (by omega)
              have t3 : wr.cell? ⟨R (i + 1), j, none⟩ = some (.int .i64 (T (i + 1) j)) := by rw [(hC.rows (i + 1) (by omega)).cell (by omega)]; unfold Z; rw [if_pos (.inl (Nat.le_refl _))]
              have t4 : wr.cell? ⟨R i, j + 1, none⟩ = some (.int .i64 (T i (j + 1))) := by rw [(hC.rows i (by omega)).cell (by omega)]; unfold Z; rw [if_pos (.inr ⟨rfl, Nat.le_refl _⟩)]
              have t5 : wr.cell? ⟨R i, j, none⟩ = some (.int .i64 0) := by rw [(hC.rows i (by omega)).cell (by omega)]; unfold Z; rw [if_neg (by omega)]
              have t6 : wr.frozen? ⟨R i, j, none⟩ = false := (hC.rows i (by omega)).frozen j
              have t7 : wr.cell? ⟨R (i + 1), j + 1, none⟩ = some (.int .i64 (T (i + 1) (j + 1))) := by rw [(hC.rows (i + 1) (by omega)).cell (by omega)]; unfold Z; rw [if_pos (.inl (Nat.le_refl _))]
              have s1 : wr.cell? ⟨b1, o1 + i, none⟩ = some (.string (S1 i)) := by
                have := hc1 i (by omega)
                rw [hC.since.cell (a := ⟨b1, o1 + i, none⟩) (World.block_lt_of_cell? _ _ this)]; exact this
              have s2 : wr.cell? ⟨b2, o2 + j, none⟩ = some (.string (S2 j)) := by
                have := hc2 j (by omega)
                rw [hC.since.cell (a := ⟨b2, o2 + j, none⟩) (World.block_lt_of_cell? _ _ this)]; exact this
              clear hc1 hc2
              go_wp2_with fail
              have w1 : IntKind.i64.wrap ((i : Int) + 1) = (i : Int) + 1 := by rw [IntKind.wrap_i64]; omega
              have w2 : IntKind.i64.wrap ((j : Int) + 1) = (j : Int) + 1 := by rw [IntKind.wrap_i64]; omega
              have z1 : (i : Int) + 1 < (n1 : Int) + 1 := by omega
              have z2 : (j : Int) + 1 < (n2 : Int) + 1 := by omega
              have z3 : (i : Int) < (n1 : Int) + 1 := by omega
              have z4 : (j : Int) < (n2 : Int) + 1 := by omega
              have z5 : (0 : Int) ≤ (i : Int) + 1 := by omega
              have z6 : (0 : Int) ≤ (j : Int) + 1 := by omega
              obtain ⟨V, hV⟩ : ∃ V, (if T i (j + 1) < T (i + 1) j then T (i + 1) j else T i (j + 1)) = V := ⟨_, rfl⟩
              go_quiet (exact Calls.quiet_of_same (max_walk _ _ _))
              clear w1 w2 z1 z2 z3 z4 z5 z6
              have HV : Aside ((if T i (j + 1) < T (i + 1) j then T (i + 1) j else T i (j + 1)) = V) := hV
              clear hV t3 t4
              cases heq : ((S1 i).toList == (S2 j).toList) with
              | false =>
                have hs : S1 i ≠ S2 j := fun e => by rw [e] at heq; simp at heq
                go_wp2_with fail
                go_big_region
                go_wp2_with fail
                go_roundg j
                case measure => go_light; omega
                case rel =>
                  go_light
                  refine ⟨by omega, rfl, ((hC.drewN nq).drew.set (i := i) (by omega) j V).congr fun p q _ _ => z_store ?_⟩
                  rw [hT.step i j (by omega) (by omega), if_neg hs, ← HV.out, max_if']
              | true =>
                have hs : S1 i = S2 j := toList_inj (eq_of_beq heq)
                have Hs : Aside (S1 i = S2 j) := hs
                have p1 := hT.low (i + 1) (j + 1)
                have p2 := hT.high (i + 1) (j + 1)
                have p3 : V ≤ T (i + 1) (j + 1) + 1 := by
                  have := hT.lip i j (by omega) (by omega)
                  rw [← HV.out]
                  split <;> omega
                obtain ⟨U, hU⟩ : ∃ U, T (i + 1) (j + 1) = U := ⟨_, rfl⟩
                rw [hU] at t7 p1 p2 p3
                have HU : Aside (T (i + 1) (j + 1) = U) := hU
                have m1 : (if 1 + U < V then V else 1 + U) = 1 + U := by split <;> omega
                clear hU hs
                go_wp2_with fail
                go_big_region
                go_wp2_with (go_at_call 327; refine (max_walk _ _ _).mono ?_; rintro _ _ ⟨rfl, rfl⟩)
                go_roundg j
                case measure => go_light; omega
                case rel =>
                  go_light
                  refine ⟨by omega, rfl, ((hC.drewN (nq + 1)).set (i := i) (by omega) j (1 + U)).congr fun p q _ _ => z_store ?_⟩
                  rw [hT.step i j (by omega) (by omega), if_pos Hs.out, HU.out, Int.add_comm]
end Go.Proofs.YtmojilihllhadaaGreatDoor.Tab
