/- append, make, literals: what the evaluator says of them. -/
import Derived.Test.YtjklgmflillagaaDoorEv11b
namespace Go.Proofs.YtjklgmflillagaaDoor.Ev
open Go Go.RowKit
set_option linter.unusedVariables false
set_option linter.unusedSimpArgs false

section
variable {α : Type} {P : Program} {E : Env} {B : Nat → Prop} {F : Fz} {g : List GE} {w : World} {H : Hp}

/-- appending that makes a new row -/
theorem append_out {t : Ty} (s : Bool) {l0 xs : List t.den} {e : TypeId} {os cs : List Value} {z : Value} {cells : Array Value} {nc : Nat} (hH : HR B F w g H) (hB : Bs B w)
    (hzs : z.cells.size = t.size) (hnc : l0.length + xs.length ≤ nc) (hcells : cells.toList = os ++ cs ++ (Builtin.zeroCells z.cells (nc - (l0.length + xs.length))).toList)
    (ho1 : os.length = l0.length * t.size) (ho2 : ∀ i x, i < l0.length → l0[i]? = some x → ∃ us, CR F w t x us ∧ ∀ j u, us[j]? = some u → os[i * t.size + j]? = some u)
    (hc1 : cs.length = xs.length * t.size) (hc2 : ∀ i x, i < xs.length → xs[i]? = some x → ∃ us, CR F w t x us ∧ ∀ j u, us[j]? = some u → cs[i * t.size + j]? = some u) :
    ∃ g', Gr B F g w F g' (w.drew.alloc (.cells cells e)) ∧ HR B F (w.drew.alloc (.cells cells e)) g' (H ++ [.arr t (l0 ++ xs) s]) ∧
      VR0 F (w.drew.alloc (.cells cells e)) g' (.all H.length t.size (l0 ++ xs).length) (.slice (some ⟨w.heap.size, 0, none⟩) (l0.length + xs.length) nc) := by
  have hsz : nc * t.size ≤ cells.size := by
    rw [← Array.length_toList, hcells]
    simp only [List.length_append, ho1, hc1, Builtin.zeroCells, Array.length_toList, Array.size_map, Array.size_range, hzs]
    rw [← Nat.add_mul, ← Nat.add_mul]
    exact Nat.mul_le_mul_right _ (by omega)
  have := new_arr (t := t) s (l := l0 ++ xs) (cells := cells) (el := e) (cap := nc) (w1 := w.drew) hH hB (News.drew w) (by simpa using hnc) hsz (fun i x hx => by
    rcases Nat.lt_or_ge i l0.length with hi | hi
    · rw [List.getElem?_append_left hi] at hx
      obtain ⟨us, ha, hu⟩ := ho2 i x hi hx
      refine ⟨us, ha, fun j u hj => ?_⟩
      have h1 := hu j u hj
      have h2 := idx_lt h1
      rw [← Array.getElem?_toList, hcells, List.append_assoc, List.getElem?_append_left h2]; exact h1
    · rw [List.getElem?_append_right hi] at hx
      obtain ⟨us, ha, hu⟩ := hc2 _ x (idx_lt hx) hx
      refine ⟨us, ha, fun j u hj => ?_⟩
      have h1 := hu j u hj
      have h2 := idx_lt h1
      have hmul : (i - l0.length) * t.size = i * t.size - l0.length * t.size := Nat.sub_mul _ _ _
      have hle : l0.length * t.size ≤ i * t.size := Nat.mul_le_mul_right _ hi
      rw [← Array.getElem?_toList, hcells, List.append_assoc, List.getElem?_append_right (by omega), List.getElem?_append_left (by omega), ← h1]
      congr 1; omega)
  obtain ⟨g', a, b, c⟩ := this
  refine ⟨g', a, b, ?_⟩
  rw [show l0.length + xs.length = (l0 ++ xs).length by simp]
  exact c

theorem appendK_ok {t : Ty} {st xt ty e e2 : TypeId} {i : TypeInfo} {z : Value} (ht : P.underlying st = some (.slice e)) (hxt : P.underlying xt = some (.slice e2)) (hi : P.info? e = some i)
    (hsz : i.size = t.size) (hby : i.bytes ≤ 1024) (hz : i.zero = some z) (hzs : z.cells.size = t.size) {s x : AV} {u v : Value} {K : AV → Hp → Option α} {r : α}
    (h : appendK t s x H K = some r) (hs : VR2 F w g s u) (hx : VR2 F w g x v) (hH : HR B F w g H) (hB : Bs B w) :
    ∃ σ H' y w' F' g', K σ H' = some r ∧ (Builtin.append_ #[st, xt] ty #[u, v]).run P w = .ok y w' ∧ VR2 F' w' g' σ y ∧ Gr B F g w F' g' w' ∧ HR B F' w' g' H' := by
  unfold appendK at h
  split at h
  · cases h
  · rename_i xs hxs
    have hx0 : VR0 F w g x v := by cases x <;> first | exact hx | (simp [asSl] at hxs)
    obtain ⟨A, c, rfl, hc, hrows⟩ := asSl_rows hxs hx0 hH
    obtain ⟨cs, c1, c2, c3, c4⟩ := flat hrows xs.length (Nat.le_refl _)
    have hfc : ∀ w' : World, (∀ a, w'.cell? a = w.cell? a) → (Builtin.firstCells i.size xs.length (.slice A xs.length c)).run P w' = .ok cs.toArray w' := by
      intro w' hw'
      rw [hsz]
      exact run_firstCells c1 fun m q hq => let ⟨ad, p1, p2, p3⟩ := c3 m q hq; ⟨ad, p1, p2, by rw [hw']; exact p3⟩
    split at h
    · -- to none
      obtain ⟨h1, hK⟩ := cond_some h
      have h1 := of_decide_eq_true h1
      obtain ⟨A', rfl⟩ := hs
      rcases Nat.eq_zero_or_pos xs.length with h0 | h0
      · have hxs0 : xs = [] := List.eq_nil_of_length_eq_zero h0
        subst hxs0
        have hcs : cs = [] := by cases cs with
          | nil => rfl
          | cons a b => simp at c1
        subst hcs
        obtain ⟨g', a, b, k⟩ := new_virt (t := t) false hH hB
        exact ⟨_, _, _, w, F, g', hK, run_append_in ht hxt hi (hfc w fun _ => rfl) (Nat.le_refl _) (fun _ _ => rfl) (fun _ => rfl), k A', a, b⟩
      · obtain ⟨nc, cells, hn, hce, hrun⟩ := run_append_out (ty := ty) ht hxt hi hz hby (base := A') (sLen := 0) (sCap := 0) (os := []) (hfc w.drew fun _ => rfl)
          (by rw [hsz]; exact run_firstCells (t := t) (by simp) (fun m q hq => by simp at hq)) (by omega) (by omega)
        obtain ⟨g', a, b, k⟩ := append_out (t := t) false (l0 := []) (xs := xs) (e := e) (os := []) (cs := cs) hH hB hzs (by simpa using hn) (by simpa using hce) (by simp) (fun i x hi => by simp at hi) c1 c2
        simp only [List.nil_append, List.length_nil, Nat.zero_add] at k
        rw [Nat.zero_add] at hrun
        exact ⟨_, _, _, _, F, g', hK, hrun, k, a, b⟩
    · -- to a whole own one
      rename_i id sz n0
      split at h
      · rename_i t' lx b hb
        split at h
        · rename_i l hl'
          obtain ⟨rfl, rfl⟩ := castL_some hl'
          obtain ⟨h1, hK⟩ := cond_some h
          have h1 := of_decide_eq_true h1
          have hs' := hs
          obtain ⟨e', A', he, hn, hesz, hsp, rfl, hA', hnc⟩ := hs'
          obtain ⟨k1, k2, k3, k4, k5⟩ := hH.blk id _ e' hb he
          have hnl : n0 = l.length := by omega
          have hrs := asSl_rows (t := t') (l := l) (v := .all id sz n0) (by simp [asSl, hb, castL?]) hs hH
          obtain ⟨A2, c2', he2, hc2', hrows2⟩ := hrs
          rw [hnl] at he2
          cases he2
          obtain ⟨os, o1, o2, o3, o4⟩ := flat hrows2 l.length (Nat.le_refl _)
          rcases Nat.lt_or_ge e'.cap (l.length + xs.length) with hout | hin
          · obtain ⟨nc, cells, hn', hce, hrun⟩ := run_append_out (ty := ty) ht hxt hi hz hby (base := A') (sLen := l.length) (sCap := e'.cap) (os := os) (hfc w.drew fun _ => rfl)
              (by rw [hsz]; exact run_firstCells (t := t') o1 o3) hout h1
            obtain ⟨g', a, b', k⟩ := append_out (t := t') b (l0 := l) (xs := xs) (e := e) (HR_kill (id := id) hH) hB hzs hn' hce o1 o2 c1 c2
            rw [List.length_set] at k
            rw [hnl]
            exact ⟨_, _, _, _, F, g', hK, hrun, k, a, b'⟩
          · rcases Nat.eq_zero_or_pos e'.cap with hz0 | hp0
            · have hl0 : l = [] := List.eq_nil_of_length_eq_zero (by omega)
              have hxs0 : xs = [] := List.eq_nil_of_length_eq_zero (by omega)
              subst hl0 hxs0
              have hcs : cs = [] := by cases cs with
                | nil => rfl
                | cons a b => simp at c1
              subst hcs
              obtain ⟨g', a, b', k⟩ := new_virt (t := t') b (HR_kill (id := id) hH) hB
              rw [List.length_set] at k
              rw [hnl]
              refine ⟨_, _, _, w, F, g', hK, run_append_in ht hxt hi (hfc w fun _ => rfl) (by simp) (fun _ _ => rfl) (fun _ => rfl), ?_, a, b'⟩
              rw [hz0]
              exact k A'
            · obtain ⟨w', g', hst, a, b', k⟩ := append_in (P := P) (off := 0) (n0 := l.length) hH hb he (by omega) (fun _ => ⟨rfl, rfl⟩) (by omega) (by omega) c1 c2 c4
              simp only [List.drop_zero, List.take_length, Nat.zero_mul, Nat.add_zero, Nat.sub_zero] at hst b' k
              have hA2 := hA' hp0
              subst hA2
              rw [hnl]
              have had : (⟨e'.ad.block, e'.ad.off, none⟩ : Addr) = e'.ad := by
                cases hh : e'.ad with
                | mk bb oo ss => rw [hh] at hsp; simp only at hsp; subst hsp; rfl
              rw [had] at k
              refine ⟨_, _, _, w', F, g', hK, run_append_in ht hxt hi (hfc w fun _ => rfl) hin (fun q hq => ?_) (fun h => by cases h), k, a, b'⟩
              cases hq
              rw [Addr.add_plain _ hsp, hsz]
              exact hst
        · cases h
      · cases h
    · -- to a part of one
      rename_i id sz off n0
      split at h
      · rename_i t' lx hb
        split at h
        · rename_i l hl'
          obtain ⟨rfl, rfl⟩ := castL_some hl'
          by_cases hfit : off + n0 + xs.length ≤ l.length
          · rw [decide_eq_true hfit] at h
            have hK : K (.own id t'.size off (n0 + xs.length)) (H.set id (.arr t' (splice l (off + n0) xs) false)) = some r := h
            obtain ⟨e', A', he, hn, hesz, hnc, rfl, hA'⟩ := hs
            obtain ⟨k1, k2, k3, k4, k5⟩ := hH.blk id _ e' hb he
            have hlaid : Laid F w t' cs.toArray xs := ⟨by simpa using c1, fun j y hy => by
              obtain ⟨us, q1, q2⟩ := c2 j y (idx_lt hy) hy
              exact ⟨us, q1, fun m u hm => by simpa using q2 m u hm⟩⟩
            obtain ⟨w', s1, s2, s3, s4⟩ := splice_ok (P := P) (off := off + n0) (A := A'.map (·.add (n0 * t'.size))) hH hb he (by omega) hlaid (fun hp => by
              rw [hA' (by omega), Option.map_some, Addr.add_plain _ rfl, k1]
              congr 2
              show e'.ad.off + off * t'.size + n0 * t'.size = _
              rw [Nat.add_mul]; omega)
            refine ⟨_, _, .slice A' (n0 + xs.length) (e'.cap - off), w', F, g, hK, run_append_in ht hxt hi (hfc w fun _ => rfl) (by omega) (fun q hq => ?_) (fun hq => ?_), ?_, s3, s4⟩
            · rw [hsz]
              have := s1 (q.add (n0 * t'.size)) (by rw [hq]; rfl)
              simpa using this
            · exact s2 (by rw [hq]; rfl)
            · exact ⟨e', A', he, by omega, k1, hnc, rfl, fun hc => hA' hc⟩
          rw [decide_eq_false hfit] at h
          simp only [cond_false] at h
          obtain ⟨h1, hK⟩ := cond_some h
          have h1 := of_decide_eq_true h1
          have hs' := hs
          obtain ⟨e', A', he, hn, hesz, hnc, rfl, hA'⟩ := hs'
          obtain ⟨k1, k2, k3, k4, k5⟩ := hH.blk id _ e' hb he
          have hlen : ((l.drop off).take n0).length = n0 := by simp; omega
          have hrs := asSl_rows (t := t') (l := (l.drop off).take n0) (v := .own id sz off n0) (by simp [asSl, hb, castL?]) hs hH
          obtain ⟨A2, c2', he2, hc2', hrows2⟩ := hrs
          rw [hlen] at he2
          cases he2
          obtain ⟨os, o1, o2, o3, o4⟩ := flat hrows2 n0 (by omega)
          rcases Nat.lt_or_ge (e'.cap - off) (n0 + xs.length) with hout | hin
          · obtain ⟨nc, cells, hn', hce, hrun⟩ := run_append_out (ty := ty) ht hxt hi hz hby (base := A') (sLen := n0) (sCap := e'.cap - off) (os := os) (hfc w.drew fun _ => rfl)
              (by rw [hsz]; exact run_firstCells (t := t') o1 o3) hout h1
            obtain ⟨g', a, b', k⟩ := append_out (t := t') false (l0 := (l.drop off).take n0) (xs := xs) (e := e) (os := os) (cs := cs) (cells := cells) (HR_kill (id := id) hH) hB hzs (by rw [hlen]; exact hn') (by rw [hlen]; exact hce)
              (by rw [hlen]; exact o1) (fun i x hi => o2 i x (by omega)) c1 c2
            rw [List.length_set, hlen] at k
            exact ⟨_, _, _, _, F, g', hK, hrun, k, a, b'⟩
          · rcases Nat.eq_zero_or_pos (e'.cap - off) with hz0 | hp0
            · have hn00 : n0 = 0 := by omega
              have hxs0 : xs = [] := List.eq_nil_of_length_eq_zero (by omega)
              subst hxs0 hn00
              have hcs : cs = [] := by cases cs with
                | nil => rfl
                | cons a b => simp at c1
              subst hcs
              obtain ⟨g', a, b', k⟩ := new_virt (t := t') false (HR_kill (id := id) hH) hB
              rw [List.length_set] at k
              refine ⟨_, _, _, w, F, g', hK, run_append_in ht hxt hi (hfc w fun _ => rfl) (by simp) (fun _ _ => rfl) (fun _ => rfl), ?_, a, b'⟩
              rw [hz0]
              exact k A'
            · obtain ⟨w', g', hst, a, b', k⟩ := append_in (P := P) (off := off) (n0 := n0) hH hb he (by omega) (fun h => by cases h) hp0 hin c1 c2 c4
              have hA2 := hA' hp0
              subst hA2
              rw [k1]
              refine ⟨_, _, _, w', F, g', hK, run_append_in ht hxt hi (hfc w fun _ => rfl) hin (fun q hq => ?_) (fun h => by cases h), k, a, b'⟩
              cases hq
              rw [Addr.add_plain _ rfl, hsz]
              exact hst
        · cases h
      · cases h
    · cases h
end
end Go.Proofs.YtjklgmflillagaaDoor.Ev
