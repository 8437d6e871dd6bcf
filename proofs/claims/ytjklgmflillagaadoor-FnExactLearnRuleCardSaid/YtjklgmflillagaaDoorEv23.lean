/- What is done to slots at a cut. -/
import Derived.Test.YtjklgmflillagaaDoorEv19
namespace Go.Proofs.YtjklgmflillagaaDoor.Ev
open Go Go.RowKit
set_option linter.unusedVariables false
set_option linter.unusedSimpArgs false

section
variable {P : Program} {E : Env} {B : Nat → Prop} {F : Fz} {g : List GE} {w : World} {H : Hp}

theorem mkWhole_ok {t : Ty} {v v' : AV} {u : Value} {H' : Hp} (h : mkWhole t H v = some (v', H')) (hv : VR0 F w g v u) (hH : HR B F w g H) (hB : Bs B w) :
    ∃ g', Gr B F g w F g' w ∧ HR B F w g' H' ∧ VR0 F w g' v' u := by
  cases v with
  | emp =>
    simp only [mkWhole] at h
    cases h
    obtain ⟨A, rfl⟩ := hv
    obtain ⟨g', a, b, k⟩ := new_virt (t := t) false hH hB
    exact ⟨g', a, b, k A⟩
  | all id sz n =>
    simp only [mkWhole] at h
    cases h
    exact ⟨g, Gr.refl .., hH, hv⟩
  | own id sz off n =>
    simp only [mkWhole] at h
    split at h
    · rename_i t' l hb
      cases h
      obtain ⟨e, A, he, hn, hesz, hnc, rfl, hA⟩ := hv
      obtain ⟨k1, k2, k3, k4, k5⟩ := hH.blk id _ e hb he
      have hlen : ((l.drop off).take n).length = n := by simp; omega
      rcases Nat.eq_zero_or_pos (e.cap - off) with hz | hp
      · have hn0 : n = 0 := by omega
        subst hn0
        obtain ⟨g', a, b, k⟩ := new_virt (t := t') false (HR_kill (id := id) hH) hB
        rw [List.length_set] at k
        refine ⟨g', a, by simpa using b, ?_⟩
        rw [hz]
        simpa using k A
      · have hfree := free_F hH hb he (by show 0 < e.cap; omega) (.inr (.inl ⟨_, _, rfl⟩))
        obtain ⟨cur, el, k7, k8, k9⟩ := k5 (by omega)
        obtain ⟨h1, h2⟩ := HR_move (w' := w) (e' := ⟨⟨e.ad.block, e.ad.off + off * t'.size, none⟩, t'.size, e.cap - off, n⟩) (b' := .arr t' ((l.drop off).take n) false)
          hH hb he (by show 0 < e.cap; omega) rfl rfl rfl rfl (fun _ _ => rfl) (fun _ _ _ h => h) (fun hg => by
            refine ⟨rfl, hlen.symm, by rw [hlen]; show n ≤ e.cap - off; omega, rfl, fun _ => ⟨cur, el, k7, ?_, fun i x hx => ?_⟩⟩
            · have a : (off + (e.cap - off)) * t'.size ≤ e.cap * t'.size := Nat.mul_le_mul_right _ (by omega)
              rw [Nat.add_mul] at a
              show e.ad.off + off * t'.size + (e.cap - off) * t'.size ≤ cur.size
              omega
            · have hi := idx_lt hx
              rw [hlen] at hi
              rw [List.getElem?_take, if_pos hi, List.getElem?_drop] at hx
              obtain ⟨us, ha, hu⟩ := k9 (off + i) x hx
              refine ⟨us, CR_gr hg ha, fun j u hj => ?_⟩
              have := hu j u hj
              rw [Nat.add_mul] at this
              show cur[e.ad.off + off * t'.size + (i * t'.size + j)]? = some u
              rw [show e.ad.off + off * t'.size + (i * t'.size + j) = e.ad.off + (off * t'.size + i * t'.size + j) by omega]
              exact this) (fun _ => rfl) (fun o hF _ => absurd hF (hfree o))
        refine ⟨_, h1, h2, ⟨⟨e.ad.block, e.ad.off + off * t'.size, none⟩, t'.size, e.cap - off, n⟩, A, ?_, hlen.symm, rfl, rfl, by rw [hlen], fun hc => ?_, by rw [hlen]; show n ≤ e.cap - off; omega⟩
        · rw [← hH.len, List.getElem?_append_right (Nat.le_refl _)]; simp
        · rw [hA hp, k1]
    · cases h
  | _ => simp [mkWhole] at h

theorem act1_ok {a : Act1} {v v' : AV} {u : Value} {H' : Hp} (h : act1 a H v = some (v', H')) (hv : VR2 F w g v u) (hH : HR B F w g H) (hB : Bs B w) :
    ∃ F' g', Gr B F g w F' g' w ∧ HR B F' w g' H' ∧ VR2 F' w g' v' u := by
  cases a with
  | keep => simp only [act1] at h; cases h; exact ⟨F, g, Gr.refl .., hH, hv⟩
  | whole t =>
    simp only [act1] at h
    have hv0 : VR0 F w g v u := by cases v <;> first | exact hv | (simp [mkWhole] at h)
    obtain ⟨g', a, b, c⟩ := mkWhole_ok h hv0 hH hB
    exact ⟨F, g', a, b, VR0_2 c⟩
  | give t =>
    simp only [act1, mkGive] at h
    split at h
    · rename_i l hl
      cases h
      have hv0 := asSl_low hl hv
      exact ⟨_, g, lend_gr hH _, lend_HR hH _, VR0_2 (x := .sl t l) (asSl_ok hl hv0 hH)⟩
    · cases h

theorem acts_ok {a : Act} : ∀ (as : List (Nat × Option Nat × Act1)) (ts ts' : List AV) (H H' : Hp) (F : Fz) (g : List GE), acts as ts H = some (ts', H') → St B F g w H ts a →
    ∃ F' g', Gr B F g w F' g' w ∧ St B F' g' w H' ts' a
  | [], ts, ts', H, H', F, g, h, hs => by
    simp only [acts] at h
    cases h
    exact ⟨F, g, Gr.refl .., hs⟩
  | (s, some c, q) :: r, ts, ts', H, H', F, g, h, hs => by simp [acts] at h
  | (s, none, q) :: r, ts, ts', H, H', F, g, h, hs => by
    simp only [acts] at h
    split at h
    · rename_i v H1 hv
      cases ht : ts[s]? with
      | none =>
        have hset : ts.set s v = ts := by
          rw [List.set_eq_of_length_le]
          rw [List.getElem?_eq_none_iff] at ht; exact ht
        rw [hset] at h
        simp only [List.getD, ht, Option.getD_none] at hv
        obtain ⟨F1, g1, h1, h2, _⟩ := act1_ok (u := undef) hv trivial hs.heap hs.base
        obtain ⟨F2, g2, h3, h4⟩ := acts_ok r ts ts' H1 H' F1 g1 h ⟨hs.tmps.mono fun _ _ => VR2_gr h1, h2, hs.base, hs.defers⟩
        exact ⟨F2, g2, h1.trans h3, h4⟩
      | some y =>
        obtain ⟨u, hu, hyu⟩ := hs.tmps.get s y ht
        simp only [List.getD, ht, Option.getD_some] at hv
        obtain ⟨F1, g1, h1, h2, h3⟩ := act1_ok hv hyu hs.heap hs.base
        have htm : All2 (VR2 F1 w g1) (ts.set s v) a.tmps.toList := by
          have := (hs.tmps.mono fun _ _ => VR2_gr h1).set h3 s
          rwa [show a.tmps.toList.set s u = a.tmps.toList from by
            apply List.ext_getElem?
            intro j
            by_cases hj : s = j
            · subst hj; rw [List.getElem?_set_self (idx_lt hu), hu]
            · rw [List.getElem?_set_ne hj]] at this
        obtain ⟨F2, g2, h4, h5⟩ := acts_ok r _ ts' H1 H' F1 g1 h ⟨htm, h2, hs.base, hs.defers⟩
        exact ⟨F2, g2, h1.trans h4, h5⟩
    · cases h

theorem goCut_ok {α : Type} {goto : List Item → List AV → Hp → Option α} {live : List Nat} {as : List (Nat × Option Nat × Act1)} {todo : List Item} {ts : List AV} {a : Act} {x : α}
    {m : Nat} (h : goCut goto m live as todo ts H = some x) (hs : St B F g w H ts a) :
    ∃ ts' H' F' g', goto todo ts' H' = some x ∧ St B F' g' w H' ts' a ∧ Gr B F [] w F' [] w ∧ (m ≤ g.length → ∀ i e, i < m → g[i]? = some e → g'[i]? = some e) := by
  unfold goCut at h
  split at h
  · rename_i ts1 H1 hact
    obtain ⟨F1, g1, h1, h2⟩ := acts_ok as ts ts1 H H1 F g hact hs
    refine ⟨_, _, F1, _, h, renumber_ok h2 _ live _, ⟨h1.up, h1.new, h1.cell, fun _ _ h => h, h1.below⟩, fun hm i e hi he => ?_⟩
    have he1 := h1.ext i e he
    have hg1 : m ≤ g1.length := by
      rcases Nat.eq_zero_or_pos m with rfl | hpos
      · exact Nat.zero_le _
      · have hl : g[m - 1]? = some (g[m - 1]'(by omega)) := List.getElem?_eq_getElem (by omega)
        have := idx_lt (h1.ext _ _ hl)
        omega
    rw [reG_first H1 m _ hg1 i hi]; exact he1
  · cases h
end
end Go.Proofs.YtjklgmflillagaaDoor.Ev
