/- The tables that a row lays, as the evaluator's contracts want them. -/
import Derived.Test.YtmojilihllhadaaGreatDoorEvM
import Derived.Lib.LaidTab
namespace Go.Proofs.YtmojilihllhadaaGreatDoor.Ev
open Go Go.Lib
theorem laidVars_at {P : Program} {W : World} {name : String} {k : IntKind} {zs : List Int} {g : Nat} {t e : TypeId} {n : Nat}
    (hg : P.globalNamed name = some g) (hty : (P.globals[g]?).map (·.type) = some t) (ht : P.underlying t = some (.array n e)) (he : P.underlying e = some (.int k)) (hce : P.cellsOf e = 1) (hct : P.cellsOf t = n) :
    ∀ (laid : List (String × DataW Unit)) (ps : List MemPlace) (i : Nat), DataW.LaidVars P W laid ps → laid[i]? = some (name, tabData k zs) → W.var? P name = some (zs.map fun z => Value.int k z).toArray
  | [], ps, i, h, hi => by simp at hi
  | (m, d) :: r, ps, 0, h, hi => by
    obtain ⟨g', t', cs, fuel, p, q, hg', ht', hvar, hd, _, _⟩ := h
    simp only [List.getElem?_cons_zero, Option.some.injEq, Prod.mk.injEq] at hi
    obtain ⟨rfl, rfl⟩ := hi
    obtain rfl := Option.some.inj (hg.symm.trans hg')
    obtain rfl := Option.some.inj (hty.symm.trans ht')
    rw [hvar, ← cells_of_tab ht he hce hct hd]
  | (m, d) :: r, ps, i + 1, h, hi => by
    obtain ⟨g', t', cs, fuel, p, q, hg', ht', hvar, hd, hr, _⟩ := h
    exact laidVars_at hg hty ht he hce hct r q i hr (by simpa using hi)
theorem laid_tab {P : Program} {W : World} {name : String} {k : IntKind} {zs : List Int} {g : Nat} {t e : TypeId} {n : Nat} {laid : List (String × DataW Unit)} (i : Nat)
    (hg : P.globalNamed name = some g) (hty : (P.globals[g]?).map (·.type) = some t) (ht : P.underlying t = some (.array n e)) (he : P.underlying e = some (.int k)) (hce : P.cellsOf e = 1) (hct : P.cellsOf t = n)
    (h : laidMet P laid W) (hi : laid[i]? = some (name, tabData k zs)) : ∃ el fr, W.heap[g]? = some (.cells (zs.map fun z => Value.int k z).toArray el fr) := by
  obtain ⟨ps, hv, _⟩ := h
  have h1 := laidVars_at hg hty ht he hce hct laid ps i hv hi
  unfold World.var? at h1
  rw [hg] at h1
  simp only [Option.bind_some] at h1
  split at h1
  · rename_i cs el fr hh
    cases h1
    exact ⟨el, fr, hh⟩
  · cases h1
theorem old_tab {W : World} {g : Nat} {cs : Array Value} (h : ∃ el fr, W.heap[g]? = some (.cells cs el fr)) : Old W g ∧ ∃ el fr, W.heap[g]? = some (.cells cs el fr) := by
  obtain ⟨el, fr, h⟩ := h
  refine ⟨?_, el, fr, h⟩
  rcases Nat.lt_or_ge g W.heap.size with h' | h'
  · exact h'
  · rw [Array.getElem?_eq_none h'] at h; cases h
end Go.Proofs.YtmojilihllhadaaGreatDoor.Ev
