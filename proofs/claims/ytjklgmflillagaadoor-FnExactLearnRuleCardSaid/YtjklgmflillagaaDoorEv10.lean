/- append, make, literals of slices. -/
import Derived.Test.YtjklgmflillagaaDoorEv9
namespace Go.Proofs.YtjklgmflillagaaDoor.Ev
open Go Go.RowKit
set_option linter.unusedVariables false
set_option linter.unusedSimpArgs false

section
variable {α : Type} {P : Program} {E : Env} {B : Nat → Prop} {F : Fz} {g : List GE} {w : World} {H : Hp}

/-- Elements in memory, whoever's it is. -/
def RowsW (F : Fz) (w : World) (t : Ty) (A : Option Addr) (l : List t.den) : Prop :=
  ∀ i x, l[i]? = some x → ∃ ad, A = some ad ∧ ad.spot = none ∧ ∃ us, CR F w t x us ∧ ∀ j u, us[j]? = some u → w.cell? ⟨ad.block, ad.off + (i * t.size + j), none⟩ = some u

theorem asSl_rows {t : Ty} {v : AV} {u : Value} {l : List t.den} (h : asSl H t v = some l) (hv : VR0 F w g v u) (hH : HR B F w g H) :
    ∃ A c, u = .slice A l.length c ∧ l.length ≤ c ∧ RowsW F w t A l := by
  cases v with
  | sl t' l' =>
    obtain ⟨rfl, rfl⟩ := castL_some h
    have hv' : CR F w (.sl _) _ [u] := hv
    simp only [CR] at hv'
    obtain ⟨A', c', he', hc', hr'⟩ := hv'
    simp only [List.cons.injEq, and_true] at he'
    refine ⟨A', c', he', hc', fun i x hx => ?_⟩
    obtain ⟨ad', hA', hs', us', ha', hl', hu'⟩ := hr' i x hx
    exact ⟨ad', hA', hs', us', ha', fun j u hj => (hu' j u hj).2⟩
  | emp =>
    obtain ⟨A, rfl⟩ := hv
    cases h
    exact ⟨A, 0, rfl, Nat.le_refl _, fun i x hx => by simp at hx⟩
  | all id sz n =>
    simp only [asSl] at h
    split at h
    · rename_i t' l' s hb
      obtain ⟨rfl, rfl⟩ := castL_some h
      obtain ⟨e, A', he', hn, hsz, hsp, rfl, hA', hnc⟩ := hv
      obtain ⟨h1, h2, h3, h4, _⟩ := hH.blk id _ e hb he'
      refine ⟨A', e.cap, by rw [← h2, hn], h3, fun i x hx => ?_⟩
      obtain ⟨hcap, us', ha', hl', hu''⟩ := arr_rows hH hb he' i x hx
      exact ⟨e.ad, hA' hcap, hsp, us', ha', hu''⟩
    · cases h
  | own id sz off n =>
    simp only [asSl] at h
    split at h
    · rename_i t' l' s hb
      obtain ⟨rfl, rfl⟩ := castL_some h
      obtain ⟨e, A', he', hn, hsz, hnc, rfl, hA'⟩ := hv
      obtain ⟨h1, h2, _⟩ := hH.blk id _ e hb he'
      have hlen : ((l'.drop off).take n).length = n := by simp; omega
      refine ⟨A', e.cap - off, by rw [hlen], by rw [hlen]; omega, fun i x hx => ?_⟩
      have hi := idx_lt hx
      rw [hlen] at hi
      have hx' : l'[off + i]? = some x := by
        rw [List.getElem?_take, if_pos (by omega), List.getElem?_drop] at hx; exact hx
      obtain ⟨hcap, us', ha', hl', hu''⟩ := arr_rows hH hb he' (off + i) x hx'
      refine ⟨_, hA' (by omega), rfl, us', ha', fun j u hj => ?_⟩
      have := hu'' j u hj
      rw [Nat.add_mul] at this
      show w.cell? ⟨e.ad.block, e.ad.off + off * e.sz + (i * t'.size + j), none⟩ = some u
      rw [h1, show e.ad.off + off * t'.size + (i * t'.size + j) = e.ad.off + (off * t'.size + i * t'.size + j) by omega]
      exact this
    · cases h
  | _ => cases h

/-- the cells of all the elements, in one list -/
theorem flat {t : Ty} {A : Option Addr} {l : List t.den} (h : RowsW F w t A l) : ∀ n, n ≤ l.length → ∃ cs : List Value, cs.length = n * t.size ∧
    (∀ i x, i < n → l[i]? = some x → ∃ us, CR F w t x us ∧ ∀ j u, us[j]? = some u → cs[i * t.size + j]? = some u) ∧
    (∀ m v, cs[m]? = some v → ∃ ad, A = some ad ∧ ad.spot = none ∧ w.cell? ⟨ad.block, ad.off + m, none⟩ = some v) ∧ ∀ v ∈ cs, v.oneCell' = true
  | 0, _ => ⟨[], by simp, fun i x hi => by omega, fun m v hv => by simp at hv, fun v hv => by simp at hv⟩
  | n + 1, hn => by
    obtain ⟨cs, h1, h2, h3, h4⟩ := flat h n (by omega)
    have hx : l[n]? = some (l[n]'(by omega)) := List.getElem?_eq_getElem (by omega)
    obtain ⟨ad, hA, hs, us, ha, hu⟩ := h n _ hx
    have hul := CR_len _ _ _ ha
    refine ⟨cs ++ us, by simp [h1, hul, Nat.add_mul], fun i x hi hx' => ?_, fun m v hv => ?_, fun v hv => ?_⟩
    · rcases Nat.lt_or_ge i n with hlt | hge
      · obtain ⟨us', ha', hu'⟩ := h2 i x hlt hx'
        refine ⟨us', ha', fun j u hj => ?_⟩
        rw [List.getElem?_append_left (idx_lt (hu' j u hj))]; exact hu' j u hj
      · have : i = n := by omega
        subst this
        rw [hx] at hx'; cases hx'
        refine ⟨us, ha, fun j u hj => ?_⟩
        rw [List.getElem?_append_right (by omega), h1, show i * t.size + j - i * t.size = j by omega]
        exact hj
    · rcases Nat.lt_or_ge m cs.length with hlt | hge
      · rw [List.getElem?_append_left hlt] at hv; exact h3 m v hv
      · rw [List.getElem?_append_right hge] at hv
        have := hu _ _ hv
        rw [h1] at this hge
        rw [show n * t.size + (m - n * t.size) = m by omega] at this
        exact ⟨ad, hA, hs, this⟩
    · rcases List.mem_append.1 hv with hv | hv
      · exact h4 v hv
      · have := explode_ok (g := []) t _ us ha
        obtain ⟨j, hj⟩ := List.mem_iff_getElem?.1 hv
        obtain ⟨a, ha', hab⟩ := this.getR j v hj
        have hsol : ∀ (t : Ty) (x : t.den), ∀ a ∈ explode t x, solid0 a = true := by
          intro t
          induction t with
          | pair a b iha ihb =>
            intro x a hm
            rcases List.mem_append.1 hm with hm | hm
            · exact iha _ _ hm
            · exact ihb _ _ hm
          | st t ih => intro x a hm; exact ih x a hm
          | unit => intro x a hm; cases hm
          | _ => intro x a hm; simp [explode] at hm; subst hm; rfl
        refine solid0_cell (F := F) (w := w) (g := []) (hsol t _ a (List.mem_of_getElem? ha')) ?_
        cases a <;> first | exact hab | exact hab.elim | (obtain ⟨rfl, rfl⟩ := hab; exact ⟨#[], rfl, .nil⟩)

theorem run_firstCells {t : Ty} {A : Option Addr} {n c : Nat} {cs : List Value} (h1 : cs.length = n * t.size) (h3 : ∀ m v, cs[m]? = some v → ∃ ad, A = some ad ∧ ad.spot = none ∧ w.cell? ⟨ad.block, ad.off + m, none⟩ = some v) :
    (Builtin.firstCells t.size n (.slice A n c)).run P w = .ok cs.toArray w := by
  cases A with
  | none =>
    have : cs = [] := by
      cases cs with
      | nil => rfl
      | cons v r => obtain ⟨ad, h, _⟩ := h3 0 v rfl; cases h
    subst this
    simp [Builtin.firstCells]
  | some a =>
    simp only [Builtin.firstCells]
    rw [← h1]
    exact run_loadCells_list w a cs fun j v hv => by
      obtain ⟨ad, h, hs, hc⟩ := h3 j v hv
      cases h
      rw [Addr.add_plain _ hs]; exact hc

theorem growBy_le (n : Nat) : ∀ (r c : Nat), c < n → Builtin.growBy n r c ≤ n + (n + 768) / 4
  | 0, c, h => by simp only [Builtin.growBy]; omega
  | r + 1, c, h => by
    simp only [Builtin.growBy]
    rw [if_neg (by omega)]
    rcases Nat.lt_or_ge (c + (c + 768) / 4) n with h' | h'
    · exact growBy_le n r _ h'
    · cases r with
      | zero => simp only [Builtin.growBy]; omega
      | succ r => simp only [Builtin.growBy]; rw [if_pos h']; omega
theorem nextslicecap_le {n c : Nat} (h : c < n) : Builtin.nextslicecap n c ≤ 2 * n + 768 := by
  unfold Builtin.nextslicecap
  split
  · omega
  · split
    · omega
    · have := growBy_le n 4 c h; omega

/-- what an own block becomes when it is appended to in place -/
theorem HR_move {id : Nat} {b b' : Blk} {e e' : GE} {w' : World} (hH : HR B F w g H) (hb : H[id]? = some b) (he : g[id]? = some e) (hr : Real b e)
    (hos : w'.os = w.os) (htape : w'.tape = w.tape) (hout : w'.output = w.output) (hsz : w'.heap.size = w.heap.size)
    (hh : ∀ k, k ≠ e.ad.block → w'.heap[k]? = w.heap[k]?) (hF : ∀ o u, F e.ad.block o → w.cell? ⟨e.ad.block, o, none⟩ = some u → w'.cell? ⟨e.ad.block, o, none⟩ = some u)
    (hbr : Gr B F g w F (g ++ [e']) w' → BR F w' (g ++ [e']) e' b') (hrow : Real b' e' → e'.ad.block = e.ad.block)
    (hfz : ∀ o, F e.ad.block o → Real b' e' → ∃ t l, b' = .arr t l true ∧ o < e'.ad.off + l.length * t.size) :
    Gr B F g w F (g ++ [e']) w' ∧ HR B F w' (g ++ [e']) (H.set id .dead ++ [b']) := by
  obtain ⟨hB, hlt⟩ := hH.own id b e hb he hr
  have hg : Gr B F g w F (g ++ [e']) w' := by
    refine ⟨fun _ _ h => h, fun _ _ h => .inl h, fun k o u hk hu => ?_, fun i f h => ext_snoc g e' i f h, ⟨hos, htape, hout, by omega, fun k hk => hh k (fun e => hB (e ▸ hk))⟩⟩
    by_cases hk' : k = e.ad.block
    · subst hk'; exact hF o u hk hu
    · rw [cell_same (hh k hk')]; exact hu
  have hlen := hH.len
  have hpair : ∀ (i : Nat) (c : Blk) (f : GE), (H.set id .dead ++ [b'])[i]? = some c → (g ++ [e'])[i]? = some f →
      (i ≠ id ∧ H[i]? = some c ∧ g[i]? = some f) ∨ (c = .dead) ∨ (i = H.length ∧ c = b' ∧ f = e') := by
    intro i c f hc hf
    rcases get_snoc hc with ⟨h1, h2⟩ | ⟨h1, h2⟩ <;> rcases get_snoc hf with ⟨h3, h4⟩ | ⟨h3, h4⟩
    · by_cases hi : i = id
      · subst hi
        rw [List.getElem?_set_self (by simpa using h1)] at h2
        exact .inr (.inl (Option.some.inj h2).symm)
      · rw [List.getElem?_set_ne (fun h => hi h.symm)] at h2
        exact .inl ⟨hi, h2, h4⟩
    · simp at h1; omega
    · simp at h1; omega
    · exact .inr (.inr ⟨by simpa using h1, h2, h4⟩)
  refine ⟨hg, by simp [hlen], fun i c f hc hf => ?_, fun i c f hc hf hrc => ?_, fun i j c d f k hc hd hf hk hrc hrd hij => ?_, fun k o hk => ?_⟩
  · rcases hpair i c f hc hf with ⟨hi, h1, h2⟩ | rfl | ⟨_, rfl, rfl⟩
    · exact BR_gr hg (fun hrc => hh _ (hH.sep i id c b f e h1 hb h2 he hrc hr hi)) (hH.blk i c f h1 h2)
    · trivial
    · exact hbr hg
  · rcases hpair i c f hc hf with ⟨hi, h1, h2⟩ | rfl | ⟨_, rfl, rfl⟩
    · have := hH.own i c f h1 h2 hrc; exact ⟨this.1, by omega⟩
    · exact hrc.elim
    · rw [hrow hrc]; exact ⟨hB, by omega⟩
  · rcases hpair i c f hc hf with ⟨hi, h1, h2⟩ | rfl | ⟨hi, rfl, rfl⟩
    · rcases hpair j d k hd hk with ⟨hj, h3, h4⟩ | rfl | ⟨hj, rfl, rfl⟩
      · exact hH.sep i j c d f k h1 h3 h2 h4 hrc hrd hij
      · exact hrd.elim
      · rw [hrow hrd]; exact hH.sep i id c b f e h1 hb h2 he hrc hr hi
    · exact hrc.elim
    · rcases hpair j d k hd hk with ⟨hj, h3, h4⟩ | rfl | ⟨hj, rfl, rfl⟩
      · rw [hrow hrc]; exact fun h => hH.sep j id d b k e h3 hb h4 he hrd hr hj h.symm
      · exact hrd.elim
      · omega
  · obtain ⟨h1, h2⟩ := hH.frz k o hk
    refine ⟨by omega, fun i c f hc hf hrc hbk => ?_⟩
    rcases hpair i c f hc hf with ⟨hi, h3, h4⟩ | rfl | ⟨_, rfl, rfl⟩
    · exact h2 i c f h3 h4 hrc hbk
    · exact hrc.elim
    · have : e.ad.block = k := (hrow hrc).symm.trans hbk
      subst this
      exact hfz o hk hrc

end
end Go.Proofs.YtjklgmflillagaaDoor.Ev
