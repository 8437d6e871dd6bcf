/- A stretch of an own slice is written over: clear, copy. -/
import Derived.Test.YtjklgmflillagaaDoorEv14
namespace Go.Proofs.YtjklgmflillagaaDoor.Ev
open Go Go.RowKit
set_option linter.unusedVariables false
set_option linter.unusedSimpArgs false

section
variable {α : Type} {P : Program} {E : Env} {B : Nat → Prop} {F : Fz} {g : List GE} {w : World} {H : Hp}

theorem own_place {v : AV} {id off n : Nat} {sz : Nat} {u : Value} (hv : v = .all id sz n ∧ off = 0 ∨ v = .own id sz off n) (h : VR0 F w g v u) :
    ∃ e A c, g[id]? = some e ∧ u = .slice A n c ∧ off + n ≤ e.n ∧ e.sz = sz ∧ (0 < n → A = some ⟨e.ad.block, e.ad.off + off * e.sz, none⟩) ∧ (A = none → n = 0) := by
  rcases hv with ⟨rfl, rfl⟩ | rfl
  · obtain ⟨e, A, h1, h2, h3, h4, rfl, h6, h7⟩ := h
    have hA : 0 < n → A = some ⟨e.ad.block, e.ad.off + 0 * e.sz, none⟩ := fun hn => by
      rw [h6 (by omega)]
      have : e.ad = ⟨e.ad.block, e.ad.off, none⟩ := by rw [← h4]
      simp only [Nat.zero_mul, Nat.add_zero]
      rw [← this]
    refine ⟨e, A, _, h1, rfl, by omega, h3, hA, fun hn => ?_⟩
    rcases Nat.eq_zero_or_pos n with h0 | h0
    · exact h0
    · rw [hA h0] at hn; cases hn
  · obtain ⟨e, A, h1, h2, h3, h4, rfl, h6⟩ := h
    refine ⟨e, A, _, h1, rfl, h2, h3, fun hn => h6 (by omega), fun hn => ?_⟩
    rcases Nat.eq_zero_or_pos n with h0 | h0
    · exact h0
    · rw [h6 (by omega)] at hn; cases hn

theorem clear_at {t : TypeId} {e : TypeId} (hE : TiOk P E t) (hd : (E.ti t).d = .slice e) {ty : TypeId} {v : AV} {id off n sz : Nat} {u : Value} (hv : v = .all id sz n ∧ off = 0 ∨ v = .own id sz off n) (h : VR0 F w g v u) (hH : HR B F w g H)
    {l : List (E.ti e).ty.den} (hb : H[id]? = some (.arr (E.ti e).ty l false)) :
    ∃ w', (Builtin.clear_ #[t] ty #[u]).run P w = .ok (.tuple #[]) w' ∧ Gr B F g w F g w' ∧ HR B F w' g (H.set id (.arr (E.ti e).ty (splice l off (List.replicate n (E.ti e).ty.dft)) false)) := by
  obtain ⟨i, z, hi, hsz, hby, hsz2, hz, hzr⟩ := hE.elem e (.inl hd)
  have hu := hE.slice e hd
  obtain ⟨ge, A, c, h1, rfl, h3, h4, h5, h6⟩ := own_place hv h
  obtain ⟨b1, b2, b3, b4, b5⟩ := hH.blk id _ ge hb h1
  have hlaid := laid_zero (F := F) (w := w) (hzr F w) n
  obtain ⟨w', k1, k2, k3, k4⟩ := splice_ok (P := P) (off := off) (A := A) hH hb h1 (by simp; omega) hlaid (fun hn => by rw [← b1]; exact h5 (by simpa using hn))
  refine ⟨w', ?_, k3, k4⟩
  have hz0 : (zeroValue e).run P w = .ok z w := by simp [zeroValue, typeInfo, program, Sem.run_bind, Sem.run, hi, hz, Result.andThen]
  cases A with
  | none =>
    rw [k2 rfl]
    simp [Builtin.clear_, run_underlying hu]
  | some a =>
    cases n with
    | zero =>
      have := k1 a rfl
      have hw : w' = w := by
        have hc : ((Array.range (0 * (E.ti e).ty.size)).map (z.cells[· % z.cells.size]!)).toList = [] := by simp
        rw [hc] at this
        cases this; rfl
      rw [hw]
      simp [Builtin.clear_, run_underlying hu]
    | succ n =>
      have := k1 a rfl
      have hzs : z.cells.size = (E.ti e).ty.size := by have := CR_len _ _ _ (hzr F w); simpa using this
      have hzc : Builtin.zeroCells z.cells (n + 1) = (Array.range ((n + 1) * (E.ti e).ty.size)).map (z.cells[· % z.cells.size]!) := by
        unfold Builtin.zeroCells; rw [hzs]
      have this' : (storeCells a (Builtin.zeroCells z.cells (n + 1)).toList).run P w = .ok () w' := by rw [hzc]; exact this
      simp [Builtin.clear_, run_underlying hu, hz0, Result.andThen, this']

theorem clearK_ok {t e : TypeId} (hE : TiOk P E t) (hd : (E.ti t).d = .slice e) {ty : TypeId} {x : AV} {u : Value} {K : AV → Hp → Option α} {r : α} (h : clearK (E.ti e).ty x H K = some r) (hx : VR2 F w g x u) (hH : HR B F w g H) :
    ∃ σ H' y w', K σ H' = some r ∧ (Builtin.clear_ #[t] ty #[u]).run P w = .ok y w' ∧ VR2 F w' g σ y ∧ Gr B F g w F g w' ∧ HR B F w' g H' := by
  have hu := hE.slice e hd
  cases x with
  | emp =>
    obtain ⟨A, rfl⟩ := hx
    refine ⟨.top, H, .tuple #[], w, h, ?_, trivial, Gr.refl .., hH⟩
    cases A <;> simp [Builtin.clear_, run_underlying hu]
  | all id sz n =>
    simp only [clearK] at h
    split at h
    · rename_i t' l hb
      split at h
      · rename_i l' hl
        obtain ⟨rfl, rfl⟩ := castL_some hl
        obtain ⟨w', k1, k2, k3⟩ := clear_at hE hd (ty := ty) (off := 0) (.inl ⟨rfl, rfl⟩) hx hH hb
        exact ⟨_, _, _, w', h, k1, trivial, k2, k3⟩
      · cases h
    · cases h
  | own id sz off n =>
    simp only [clearK] at h
    split at h
    · rename_i t' l hb
      split at h
      · rename_i l' hl
        obtain ⟨rfl, rfl⟩ := castL_some hl
        obtain ⟨w', k1, k2, k3⟩ := clear_at hE hd (ty := ty) (off := off) (.inr rfl) hx hH hb
        exact ⟨_, _, _, w', h, k1, trivial, k2, k3⟩
      · cases h
    · cases h
  | _ => cases h
end
end Go.Proofs.YtjklgmflillagaaDoor.Ev
