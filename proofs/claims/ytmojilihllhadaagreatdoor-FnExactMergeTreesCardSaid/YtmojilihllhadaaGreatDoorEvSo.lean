/- The evaluator: EvSo. -/
import Derived.Test.YtmojilihllhadaaGreatDoorEvS
import Derived.Shelf.SlSortCmp.NoneTotal
import Derived.Sort.LotD7
/- slices.SortFunc, strings.Trim: the contracts, out of the shelf's. -/
namespace Go.Proofs.YtmojilihllhadaaGreatDoor.Ev
open Go Go.RowKit Go.Sort
set_option linter.unusedVariables false
set_option linter.unusedSimpArgs false
def encT : (t : Ty) → t.den → List Value
  | .int k, x => [.int k x]
  | .bool, b => [.bool b]
  | .str, s => [.string s]
  | .unit, _ => []
  | .pair a b, x => encT a x.1 ++ encT b x.2
  | .st t, x => encT t x
  | .sl _, _ => []
structure SortWalk (P : Program) (f g : FuncId) (t : Ty) (cf : t.den → t.den → Int) : Prop where
  nil : ∀ (p : Option Addr) (cap : Nat) (fv : Value) (w : World), Calls P f #[.slice p 0 cap, fv] w fun e w' => e = .returned (.tuple #[]) ∧ w' = w
  row : ∀ (blk off cap : Nat) (d : Array t.den) (w : World), @HoldsK t.den ⟨t.dft⟩ (encT t) t.size w blk off d → blk < w.heap.size → d.size < 4611686018427387904 →
    Calls P f #[.slice (some ⟨blk, off, none⟩) d.size cap, .func (.func g) #[] #[]] w fun e w' =>
      e = .returned (.tuple #[]) ∧ ∃ n os, w' = @sortWorldK t.den ⟨t.dft⟩ (encT t) t.size w blk off n (@pdq t.den ⟨t.dft⟩ (fun x y => decide (cf x y < 0)) d 0 d.size (Lib.bitLen d.size) true true) os
  len : ∀ l : List t.den, (sortBy t cf l).length = l.length
section
variable {α : Type} {P : Program} {E : Env} {B : Nat → Prop} {F : Fz} {g : List GE} {w : World} {H : Hp}
theorem CR_enc : (t : Ty) → t.hasSl = false → (x : t.den) → (vs : List Value) → (CR F w t x vs ↔ vs = encT t x)
  | .int _, _, _, _ => by simp [CR, encT]
  | .bool, _, _, _ => by simp [CR, encT]
  | .str, _, _, _ => by simp [CR, encT]
  | .unit, _, _, _ => by simp [CR, encT]
  | .sl _, h, _, _ => by cases h
  | .st t, h, x, vs => by simp only [CR, encT]; exact CR_enc t h x vs
  | .pair a b, h, x, vs => by
    have h1 : a.hasSl = false ∧ b.hasSl = false := by simpa [Ty.hasSl] using h
    simp only [CR, encT]
    constructor
    · rintro ⟨v1, v2, rfl, k1, k2⟩
      rw [(CR_enc a h1.1 _ _).1 k1, (CR_enc b h1.2 _ _).1 k2]
    · rintro rfl
      exact ⟨_, _, rfl, (CR_enc a h1.1 _ _).2 rfl, (CR_enc b h1.2 _ _).2 rfl⟩
theorem enc_len (t : Ty) (h : t.hasSl = false) (x : t.den) : (encT t x).length = t.size := CR_len (F := fun _ _ => False) (w := default) t x _ ((CR_enc t h x _).2 rfl)
theorem getK {t : Ty} (h : t.hasSl = false) {l : List t.den} {i j : Nat} {x : t.den} {u : Value} (hx : l[i]? = some x) (hu : (encT t x)[j]? = some u) :
    letI : Inhabited t.den := ⟨t.dft⟩
    i * t.size + j < (flatK (encT t) t.size l.toArray).size ∧ (flatK (encT t) t.size l.toArray)[i * t.size + j]! = u := by
  letI : Inhabited t.den := ⟨t.dft⟩
  have hi := idx_lt hx
  have hj := idx_lt hu
  rw [enc_len t h] at hj
  have hlt : i * t.size + j < l.toArray.size * t.size := by simpa using mul_lt_of hi hj
  refine ⟨by rw [size_flatK]; exact hlt, ?_⟩
  rw [get_flatK _ _ _ _ hlt]
  have h1 : (i * t.size + j) / t.size = i := by rw [Nat.mul_comm, Nat.mul_add_div (by omega), Nat.div_eq_of_lt hj]; omega
  have h2 : (i * t.size + j) % t.size = j := by rw [Nat.mul_comm, Nat.mul_add_mod, Nat.mod_eq_of_lt hj]
  rw [h1, h2]
  have h3 : l.toArray[i]! = x := by
    have := (List.getElem?_eq_some_iff.1 hx).2
    simp [hi, this]
  rw [h3]
  have := (List.getElem?_eq_some_iff.1 hu)
  obtain ⟨p, q⟩ := this
  simp [p, q]
structure SortSWalk (P : Program) (f : FuncId) : Prop where
  nil : ∀ (p : Option Addr) (cap : Nat) (w : World), Calls P f #[.slice p 0 cap] w fun e w' => e = .returned (.tuple #[]) ∧ w' = w
  row : ∀ (blk off cap : Nat) (l : List ByteArray) (w : World), @HoldsK (Ty.den .str) ⟨Ty.dft .str⟩ (encT .str) (Ty.size .str) w blk off l.toArray → blk < w.heap.size → l.length < 4611686018427387904 →
    Calls P f #[.slice (some ⟨blk, off, none⟩) l.length cap] w fun e w' =>
      e = .returned (.tuple #[]) ∧ ∃ n os, w' = @sortWorldK (Ty.den .str) ⟨Ty.dft .str⟩ (encT .str) (Ty.size .str) w blk off n (bsort l).toArray os
  len : ∀ l : List ByteArray, (bsort l).length = l.length
theorem sortS_ok {f : FuncId} (W : SortSWalk P f) : XtSem P E f .sortS := by
  have hfl : (Ty.str).hasSl = false := rfl
  letI : Inhabited (Ty.den .str) := ⟨Ty.dft .str⟩
  intro args H σ H' B F g w vs h ha hH hB hG
  unfold extK at h
  split at h
  · rename_i heq; cases heq
  · rename_i heq; cases heq
  · rename_i heq; cases heq
  · rename_i heq; cases heq
  · rename_i heq; cases heq
  · rename_i heq; cases heq
  · rename_i heq; cases heq
  · rename_i heq; cases heq
  · rename_i heq; cases heq
  · rename_i sv heq
    cases heq
    · unfold sortSK at h
      split at h
      · rename_i id sz n0
        split at h
        · rename_i t2 l0 hb
          split at h
          · rename_i l hl'
            obtain ⟨rfl, rfl⟩ := castL_some hl'
            clear hl'
            obtain ⟨hc, hK⟩ := cond_some h
            have hbig := of_decide_eq_true hc
            cases hK
            obtain ⟨u0, hvs, hs⟩ : ∃ u0, vs = #[u0] ∧ VR2 F w g (.all id sz n0) u0 := by
              cases hv : vs.toList with
              | nil => rw [hv] at ha; cases ha
              | cons u0 v1 =>
                rw [hv] at ha
                cases ha with
                | cons h1 ha =>
                  cases ha
                  exact ⟨_, Array.toList_inj.1 (by rw [hv]), h1⟩
            subst hvs
            have hs' := hs
            obtain ⟨⟨⟨blk, off, sp⟩, esz, cap, en⟩, A, he, hn, hesz, hsp, rfl, hA, hnc⟩ := hs'
            simp only at hn hesz hsp hA hnc
            subst hsp
            obtain ⟨k1, k2, k3, k4, k5⟩ := hH.blk id _ _ hb he
            simp only at k1 k2 k3 k4 k5
            have hnl : n0 = l.length := by omega
            subst hnl
            have hlen := W.len l
            by_cases h0 : l.length = 0
            · -- nothing to sort
              have hl0 : l = [] := List.length_eq_zero_iff.1 h0
              subst hl0
              refine (W.nil A cap w).mono ?_
              rintro _ _ ⟨rfl, rfl⟩
              have hs0 : bsort [] = [] := List.length_eq_zero_iff.1 (by rw [hlen]; rfl)
              refine ⟨_, F, g, rfl, ⟨_, rfl, .nil⟩, Gr.refl .., ?_⟩
              rw [hs0]
              rw [show H.set id (.arr .str [] false) = H from by
                apply List.ext_getElem?
                intro k
                rw [List.getElem?_set]
                split
                · rename_i hk
                  subst hk
                  split
                  · exact hb.symm
                  · rename_i hlt; rw [List.getElem?_eq_none (by omega)]
                · rfl]
              exact hH
            · have hcap : 0 < cap := by omega
              have hA1 := hA hcap
              subst hA1
              obtain ⟨cur, el, k7, ku, k8, k9⟩ := k5 hcap
              have hblt : blk < w.heap.size := (Array.getElem?_eq_some_iff.1 k7).1
              have hcurat : ∀ i x j u, l[i]? = some x → (encT .str x)[j]? = some u → cur[off + (i * (Ty.size .str) + j)]? = some u := fun i x j u hx hu => by
                obtain ⟨us, ha, hb'⟩ := k9 i x hx
                rw [(CR_enc .str hfl _ _).1 ha] at hb'
                exact hb' j u hu
              have hH0 : HoldsK (encT .str) (Ty.size .str) w blk off l.toArray := by
                intro q hq
                rw [size_flatK] at hq
                have hq' : q < l.length * (Ty.size .str) := by simpa using hq
                have hpos : 0 < (Ty.size .str) := by
                  rcases Nat.eq_zero_or_pos (Ty.size .str) with hz | hz
                  · rw [hz] at hq'; omega
                  · exact hz
                have hi : q / (Ty.size .str) < l.length := (Nat.div_lt_iff_lt_mul hpos).2 hq'
                have hj : q % (Ty.size .str) < (Ty.size .str) := Nat.mod_lt _ hpos
                have hx := List.getElem?_eq_getElem hi
                have hu := List.getElem?_eq_getElem (show q % (Ty.size .str) < (encT .str l[q / (Ty.size .str)]).length by rw [enc_len .str hfl]; exact hj)
                have hqe : q / (Ty.size .str) * (Ty.size .str) + q % (Ty.size .str) = q := by rw [Nat.mul_comm]; exact Nat.div_add_mod _ _
                obtain ⟨g1, g2⟩ := getK hfl hx hu
                rw [hqe] at g2
                have g3 := hcurat _ _ _ _ hx hu
                rw [hqe] at g3
                refine ⟨?_, by simp [World.frozen?, k7]⟩
                rw [g2]
                simp only [World.cell?, k7]
                exact g3
              have hcall := W.row blk off cap l w hH0 hblt (by omega)
              refine hcall.mono ?_
              rintro _ _ ⟨rfl, n, os, rfl⟩
              obtain ⟨d, hd⟩ : ∃ d, d = (bsort l).toArray := ⟨_, rfl⟩
              have hsd : bsort l = d.toList := by rw [hd]
              rw [← hd]
              rw [hsd] at hlen
              have hds : d.size = l.length := by simpa using hlen
              obtain ⟨w1, hw1⟩ : ∃ w1, w1 = putRowK (encT .str) (Ty.size .str) (Go.Sort.ahead w n) blk off d := ⟨_, rfl⟩
              have hrow : w1.heap[blk]? = some (.cells (putCells _root_.id off (flatK (encT .str) (Ty.size .str) d) cur) el (0, 0)) := by
                rw [hw1]
                simp only [putRowK, putRow, mapBlock, Array.getElem?_modify, if_true]
                rw [show (Go.Sort.ahead w n).heap[blk]? = some (.cells cur el (0, 0)) from k7]
                rfl
              have hoth : ∀ k, k ≠ blk → w1.heap[k]? = w.heap[k]? := fun k hk => by
                rw [hw1]
                simp only [putRowK, putRow, mapBlock, Array.getElem?_modify, if_neg (Ne.symm hk)]
                rfl
              have hset := HR_set (w' := w1) (b' := .arr .str d.toList false) hH hb he hcap (.inr (.inl ⟨_, _, rfl⟩)) (by rw [hw1]; rfl) (by rw [hw1]; rfl) (by rw [hw1]; rfl) (by rw [hw1]; simp [putRowK]) hoth (fun hg => by
                refine ⟨k1, by simp only; omega, by simp only; omega, rfl, fun _ => ⟨_, el, hrow, ku, by simp [putCells]; exact k8, fun i x hx => ⟨encT .str x, (CR_enc .str hfl _ _).2 rfl, fun j u hu => ?_⟩⟩⟩
                have hx' : d.toList[i]? = some x := hx
                obtain ⟨g1, g2⟩ := getK hfl hx' hu
                simp only [Array.toArray_toList] at g1 g2
                have hi := idx_lt hx'
                have hj := idx_lt hu
                rw [enc_len .str hfl] at hj
                have hlt := mul_lt_of hi hj
                have hle : d.toList.length * (Ty.size .str) ≤ cap * (Ty.size .str) := Nat.mul_le_mul_right _ (by omega)
                simp only [putCells, Array.getElem?_mapIdx]
                rw [Array.getElem?_eq_getElem (show off + (i * (Ty.size .str) + j) < cur.size by omega)]
                simp only [Option.map_some]
                rw [if_pos ⟨by omega, by omega⟩]
                simp only [Nat.add_sub_cancel_left, id_eq]
                rw [g2]) (by intro _ _ h; cases h)
              have hnews : News w1 (grow w1 os) := ⟨rfl, rfl, rfl, by simp [grow], fun k hk => by simp only [grow]; rw [Array.getElem?_append_left hk]⟩
              have hB1 : Bs B w1 := hB.mono hset.1.below.size
              have hfin : sortWorldK (encT .str) (Ty.size .str) w blk off n d os = grow w1 os := by rw [hw1]; rfl
              rw [hfin, hsd]
              exact ⟨_, F, g, rfl, ⟨_, rfl, .nil⟩, hset.1.trans (hnews.gr hset.2 hB1), hnews.HR hset.2 hB1⟩
          · cases h
        · cases h
      · cases h
  · cases h
theorem sortS_one {f : FuncId} (W : SortSWalk P f) (hf : ∃ fn, P.funcs[f]? = some fn ∧ fn.body.isSome = true ∧ (fn.name == "runtime.NumGoroutine") = false) : XtOne P E f .sortS :=
  ⟨fun h => (by cases h), fun _ => ⟨hf, sortS_ok W⟩⟩
theorem holds_str {w : World} {blk off : Nat} {l : List ByteArray} (h : @HoldsK (Ty.den .str) ⟨Ty.dft .str⟩ (encT .str) (Ty.size .str) w blk off l.toArray) : Holds encStr w blk off (l.map (·.data.toList)).toArray := by
  letI : Inhabited (Ty.den .str) := ⟨Ty.dft .str⟩
  intro j hj
  have hj' : j < l.length := by simpa using hj
  have hs : j < (l.toArray : Array (Ty.den .str)).size * (Ty.size .str) := by show j < l.toArray.size * 1; simpa using hj'
  obtain ⟨h1, h2⟩ := h j (by rw [size_flatK]; exact hs)
  refine ⟨?_, h2⟩
  rw [h1, get_flatK _ _ _ _ hs]
  show some ((encT .str (l.toArray : Array (Ty.den .str))[j / 1]!)[j % 1]!) = _
  rw [Nat.div_one, Nat.mod_one]
  have e1 : (l.toArray : Array (Ty.den .str))[j]! = l[j] := by rw [getElem!_pos _ _ (by simpa using hj')]; rfl
  have e2 : ((l.map (·.data.toList)).toArray)[j]! = l[j].data.toList := by rw [getElem!_pos _ _ (by simpa using hj')]; simp
  rw [e1, e2]
  show some (Value.string l[j]) = some (Value.string ⟨l[j].data.toList.toArray⟩)
  congr 2
theorem put_str {w : World} {blk off : Nat} (m : List (List UInt8)) : putRow encStr w blk off m.toArray = @putRowK (Ty.den .str) ⟨Ty.dft .str⟩ (encT .str) (Ty.size .str) w blk off (m.map fun x => (⟨x.toArray⟩ : ByteArray)).toArray := by
  letI : Inhabited (Ty.den .str) := ⟨Ty.dft .str⟩
  unfold putRowK putRow
  congr 1
  funext c
  unfold putCells
  have hsz : (flatK (encT .str) (Ty.size .str) ((m.map fun x => (⟨x.toArray⟩ : ByteArray)).toArray : Array (Ty.den .str))).size = m.toArray.size := by
    rw [size_flatK]
    show (m.map fun x => (⟨x.toArray⟩ : ByteArray)).toArray.size * 1 = _
    simp
  rw [hsz]
  apply Array.ext
  · simp
  intro i hi1 hi2
  simp only [Array.getElem_mapIdx]
  by_cases hc : off ≤ i ∧ i < off + m.toArray.size
  · rw [if_pos hc, if_pos hc]
    have hj : i - off < m.length := by have := hc.2; simp at this; omega
    have hs : i - off < ((m.map fun x => (⟨x.toArray⟩ : ByteArray)).toArray : Array (Ty.den .str)).size * (Ty.size .str) := by show i - off < (m.map fun x => (⟨x.toArray⟩ : ByteArray)).toArray.size * 1; simpa using hj
    rw [get_flatK _ _ _ _ hs]
    show _ = id ((encT .str ((m.map fun x => (⟨x.toArray⟩ : ByteArray)).toArray : Array (Ty.den .str))[(i - off) / 1]!)[(i - off) % 1]!)
    rw [Nat.div_one, Nat.mod_one]
    have e1 : ((m.map fun x => (⟨x.toArray⟩ : ByteArray)).toArray : Array (Ty.den .str))[i - off]! = ⟨m[i - off].toArray⟩ := by rw [getElem!_pos _ _ (by simpa using hj)]; simp
    have e2 : m.toArray[i - off]! = m[i - off] := by rw [getElem!_pos _ _ (by simpa using hj)]; rfl
    rw [e1, e2]
    rfl
  · rw [if_neg hc, if_neg hc]
end
end Go.Proofs.YtmojilihllhadaaGreatDoor.Ev
