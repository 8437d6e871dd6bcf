/- slices.Insert: the contract, out of the walks of its text. -/
import Derived.Test.YtjklgmflillagaaDoorEv18
import Derived.Lib.AppendZerosOnto
import Derived.Laws.NewBlocks
namespace Go.Proofs.YtjklgmflillagaaDoor.Ev
open Go Go.RowKit
set_option linter.unusedVariables false
set_option linter.unusedSimpArgs false

/-- what the walks of the text say (f: its number, S: the slice's type, ov: slices.overlaps, sz: cells an element) -/
structure InsWalk (P : Program) (f : FuncId) (S : TypeId) (ov : FuncId) (sz : Nat) : Prop where
  w_end : ∀ (base : Option Addr) (n c : Nat) (vb : Option Addr) (m vc : Nat) (w : World), 0 < m → n ≤ c → n < 4294967296 → ∀ {r : Value} {w' : World},
    (∀ ty, (Builtin.append_ #[S, S] ty #[.slice base n c, .slice vb m vc]).run P w = .ok r w') →
    Calls P f #[.slice base n c, .int .i64 n, .slice vb m vc] w fun e w'' => e = .returned r ∧ w'' = w'
  w_shift : ∀ (b off n c i : Nat) (vb : Option Addr) (m vc : Nat) (w : World), i < n → 0 < m → n + m ≤ c → n + m < 4294967296 → ∀ {x y : Value} {R1 R2 : List Value},
    (callFunc ov #[.slice vb m vc, .slice (some ⟨b, off + (i + m) * sz, none⟩) (n + m - (i + m)) (c - (i + m))]).run P w = .ok (.value (.bool false)) w →
    (∀ W ty dc sc, W.heap = w.heap → (Builtin.copy_ #[S, S] ty #[.slice (some ⟨b, off + (i + m) * sz, none⟩) (n + m - (i + m)) dc, .slice (some ⟨b, off + i * sz, none⟩) (n + m - i) sc]).run P W = .ok x (W.setRow b R1.toArray)) →
    (∀ W ty dc, W.heap = (w.setRow b R1.toArray).heap → (Builtin.copy_ #[S, S] ty #[.slice (some ⟨b, off + i * sz, none⟩) (n + m - i) dc, .slice vb m vc]).run P W = .ok y (W.setRow b R2.toArray)) →
    Calls P f #[.slice (some ⟨b, off, none⟩) n c, .int .i64 i, .slice vb m vc] w fun e w'' =>
      e = .returned (.slice (some ⟨b, off, none⟩) (n + m) c) ∧ w''.heap = ((w.setRow b R1.toArray).setRow b R2.toArray).heap ∧ w''.os = w.os ∧ w''.tape = w.tape ∧ w''.output = w.output
  w_grow : ∀ (b off n c i : Nat) (vb : Option Addr) (m vc : Nat) (w : World), i < n → 0 < m → n ≤ c → c < n + m → n + m < 4294967296 → ∀ {x y : Value} {R1 R2 : List Value} {N G : Nat} {w1 : World}, n + m ≤ G →
    (∀ ty, (Builtin.append_ #[S, 3] ty #[.slice (some ⟨b, off, none⟩) i c, .int .i64 ((n : Int) + (m : Int) - (i : Int))]).run P w = .ok (.slice (some ⟨N, 0, none⟩) (n + m) G) w1) →
    (∀ W ty dc, W.heap = w1.heap → (Builtin.copy_ #[S, S] ty #[.slice (some ⟨N, i * sz, none⟩) (n + m - i) dc, .slice vb m vc]).run P W = .ok x (W.setRow N R1.toArray)) →
    (∀ W ty dc sc, W.heap = (w1.setRow N R1.toArray).heap → (Builtin.copy_ #[S, S] ty #[.slice (some ⟨N, (i + m) * sz, none⟩) (n + m - (i + m)) dc, .slice (some ⟨b, off + i * sz, none⟩) (n - i) sc]).run P W = .ok y (W.setRow N R2.toArray)) →
    Calls P f #[.slice (some ⟨b, off, none⟩) n c, .int .i64 i, .slice vb m vc] w fun e w'' =>
      e = .returned (.slice (some ⟨N, 0, none⟩) (n + m) G) ∧ w''.heap = ((w1.setRow N R1.toArray).setRow N R2.toArray).heap ∧ w''.os = w1.os ∧ w''.tape = w1.tape ∧ w''.output = w1.output

section
variable {α : Type} {P : Program} {E : Env} {B : Nat → Prop} {F : Fz} {g : List GE} {w : World} {H : Hp}

/-- the cells of the elements, one behind the other -/
def Flat (F : Fz) (w : World) (t : Ty) (l : List t.den) (cs : List Value) : Prop :=
  cs.length = l.length * t.size ∧ ∀ i x, l[i]? = some x → ∃ us, CR F w t x us ∧ ∀ j u, us[j]? = some u → cs[i * t.size + j]? = some u
theorem Flat.append {t : Ty} {l m : List t.den} {cs ds : List Value} (h : Flat F w t l cs) (k : Flat F w t m ds) : Flat F w t (l ++ m) (cs ++ ds) := by
  refine ⟨by simp [h.1, k.1, Nat.add_mul], fun i x hx => ?_⟩
  rcases Nat.lt_or_ge i l.length with hi | hi
  · rw [List.getElem?_append_left hi] at hx
    obtain ⟨us, ha, hu⟩ := h.2 i x hx
    refine ⟨us, ha, fun j u hj => ?_⟩
    have := hu j u hj
    rw [List.getElem?_append_left (idx_lt this)]; exact this
  · rw [List.getElem?_append_right hi] at hx
    obtain ⟨us, ha, hu⟩ := k.2 _ x hx
    refine ⟨us, ha, fun j u hj => ?_⟩
    have := hu j u hj
    have hmul : (i - l.length) * t.size = i * t.size - l.length * t.size := Nat.sub_mul _ _ _
    have hle : l.length * t.size ≤ i * t.size := Nat.mul_le_mul_right _ hi
    rw [List.getElem?_append_right (by rw [h.1]; omega), h.1, ← this]
    congr 1; omega
theorem Flat.take {t : Ty} {l : List t.den} {cs : List Value} (h : Flat F w t l cs) {n : Nat} (hn : n ≤ l.length) : Flat F w t (l.take n) (cs.take (n * t.size)) := by
  have hle : n * t.size ≤ l.length * t.size := Nat.mul_le_mul_right _ hn
  refine ⟨by rw [List.length_take, List.length_take, h.1, Nat.min_eq_left hn, Nat.min_eq_left hle], fun i x hx => ?_⟩
  rw [List.getElem?_take] at hx
  split at hx
  · rename_i hi
    obtain ⟨us, ha, hu⟩ := h.2 i x hx
    refine ⟨us, ha, fun j u hj => ?_⟩
    have hj' := idx_lt hj
    rw [CR_len _ _ _ ha] at hj'
    rw [List.getElem?_take, if_pos (mul_lt_of hi hj')]
    exact hu j u hj
  · cases hx
theorem Flat.drop {t : Ty} {l : List t.den} {cs : List Value} (h : Flat F w t l cs) {n : Nat} (hn : n ≤ l.length) : Flat F w t (l.drop n) (cs.drop (n * t.size)) := by
  refine ⟨by simp [h.1, Nat.sub_mul], fun i x hx => ?_⟩
  rw [List.getElem?_drop] at hx
  obtain ⟨us, ha, hu⟩ := h.2 (n + i) x hx
  refine ⟨us, ha, fun j u hj => ?_⟩
  have := hu j u hj
  rw [List.getElem?_drop, ← this]
  congr 1
  rw [Nat.add_mul]; omega

theorem cell_heap {W w : World} (h : W.heap = w.heap) (a : Addr) : W.cell? a = w.cell? a := by simp [World.cell?, h]
theorem run_copy_row {S e : TypeId} {i0 : TypeInfo} {sz : Nat} (hu : P.underlying S = some (.slice e)) (hi : P.info? e = some i0) (hsz : i0.size = sz) {W : World} {ty : TypeId} {b o dLen dCap sLen sCap : Nat} {a : Addr} {cs : List Value}
    (hn : cs.length = Nat.min sLen dLen * sz) (hsrc : ∀ j v, cs[j]? = some v → W.cell? (a.add j) = some v) {cur : Array Value} {el : TypeId} (hb : W.heap[b]? = some (.cells cur el (0, 0))) (hfit : o + cs.length ≤ cur.size) (h1 : ∀ v ∈ cs, v.oneCell' = true) :
    (Builtin.copy_ #[S, S] ty #[.slice (some ⟨b, o, none⟩) dLen dCap, .slice (some a) sLen sCap]).run P W = .ok (goInt (Nat.min sLen dLen)) (W.setRow b (cur.toList.take o ++ cs ++ cur.toList.drop (o + cs.length)).toArray) := by
  have hl := run_loadCells_list (P := P) W a cs hsrc
  have hst := run_storeCells_at (P := P) b o el cs 0 cur W hb (by omega) h1
  simp only [Nat.add_zero] at hst
  rw [hn] at hl
  simp [Builtin.copy_, run_underlying hu, Builtin.lenOf, Builtin.firstCells, sizeOf, typeInfo, hi, hsz, hl, hst]

theorem setRow_twice (w : World) (b : Nat) (r s : Array Value) : ((w.setRow b r).setRow b s).heap = (w.setRow b s).heap := by
  apply Array.ext_getElem?
  intro k
  by_cases hk : k = b
  · subst hk
    simp only [World.setRow, Array.getElem?_modify, if_true]
    cases w.heap[k]? with
    | none => rfl
    | some o => cases o <;> rfl
  · rw [setRow_other _ _ _ _ hk, setRow_other _ _ _ _ hk, setRow_other _ _ _ _ hk]
theorem setRow_alloc (w : World) (c r : Array Value) (el : TypeId) : ((w.alloc (.cells c el)).setRow w.heap.size r).heap = (w.alloc (.cells r el)).heap := by
  have e1 : (w.alloc (.cells c el)).heap = w.heap.push (.cells c el) := rfl
  have e2 : (w.alloc (.cells r el)).heap = w.heap.push (.cells r el) := rfl
  apply Array.ext_getElem?
  intro k
  by_cases hk : k = w.heap.size
  · subst hk
    rw [setRow_heap _ _ c _ el (0, 0) (by rw [e1]; simp), e2]; simp
  · rw [setRow_other _ _ _ _ hk, e1, e2, Array.getElem?_push, Array.getElem?_push, if_neg hk, if_neg hk]
theorem news_of_heap {w w' : World} (hh : w'.heap = w.heap) (hos : w'.os = w.os) (ht : w'.tape = w.tape) (ho : w'.output = w.output) : News w w' :=
  ⟨hos, ht, ho, by rw [hh]; exact Nat.le_refl _, fun _ _ => by rw [hh]⟩

/-- two rows in two blocks: no overlap -/
theorem run_overlaps_own {S tR e ov : TypeId} (hS : P.underlying S = some (.slice e)) {i0 : TypeInfo} (hi : P.info? e = some i0)
    (hov : ∃ fn, P.funcs[ov]? = some fn ∧ fn.body.isNone = true ∧ (fn.name == "runtime.NumGoroutine") = false ∧ Extern.findNext fn = none ∧ Extern.find fn = some (Extern.SlicesOverlaps.overlaps #[S, S] #[tR]))
    {a b : Addr} (hne : a.block ≠ b.block) {ca cb : Array Value} {ela elb : TypeId} {fr : Nat × Nat} (ha : w.heap[a.block]? = some (.cells ca ela fr)) (hb : w.heap[b.block]? = some (.cells cb elb (0, 0))) (hca : 0 < ca.size) (hcb : 0 < cb.size) (la lca lb lcb : Nat) :
    (callFunc ov #[.slice (some a) la lca, .slice (some b) lb lcb]).run P w = .ok (.value (.bool false)) w := by
  obtain ⟨fn, f1, f2, f3, f4, f5⟩ := hov
  rw [run_callFunc_extern f1 f3 f2 f4 f5]
  have hnb : (a.block != b.block) = true := by simpa using hne
  have hnb' : (a.block == b.block) = false := by simpa using hne
  have hz : ∀ w, (Go.sizeOf e).run P w = .ok i0.size w := fun w => by simp [sizeOf, typeInfo, hi]
  have hsa : w.shape? a.block = some (ela, ca.size) := by simp [World.shape?, ha]
  have hsb : w.shape? b.block = some (elb, cb.size) := by simp [World.shape?, hb]
  have hfb : ∀ o s, w.frozen? ⟨b.block, o, s⟩ = false := fun o s => by simp [World.frozen?, hb]
  have hfb' : w.frozen? b = false := hfb b.off b.spot
  obtain ⟨k, hk⟩ : ∃ k, cb.size = k + 1 := ⟨cb.size - 1, by omega⟩
  rw [hk] at hsb
  obtain ⟨k2, hk2⟩ : ∃ k, ca.size = k + 1 := ⟨ca.size - 1, by omega⟩
  rw [hk2] at hsa
  change (Sem.run P (α := Value) (do
    let some t := (#[S, S] : Array TypeId)[0]? | stuck "slices.overlaps: no parameter types"
    let .slice elem ← underlying t | stuck "slices.overlaps: slice type expected"
    let size ← sizeOf elem
    match (some a : Option Addr), (some b : Option Addr) with
    | some a, some b =>
      if la = 0 ∨ lb = 0 ∨ size = 0 then pure (Value.bool false)
      else if a.block != b.block && (← frozen a) && (← frozen b) then unsupported .addressObserved
      else do
        if a.block != b.block then do
          noView a; noView b
          if ← mayBeOne a b then return Value.bool ((← choose (.extern "sameAddr.stringBytes" 2)) == 1)
        pure (Value.bool (a.block == b.block && a.off < b.off + lb * size && b.off < a.off + la * size))
    | _, _ => pure (Value.bool false)) w).andThen _ = _
  by_cases h0 : la = 0 ∨ lb = 0 ∨ i0.size = 0
  · simp [run_underlying hS, hz, h0]
  · cases hfa : w.frozen? a with
    | true => simp [run_underlying hS, hz, h0, hnb, hnb', frozen, noView, viewAt, mayBeOne, stringish, shape, Sem.run, hsa, hsb, hfb, hfb', hfa]
    | false =>
      cases hfe : w.frozen? { block := a.block, off := k2 + 1 } <;> simp [run_underlying hS, hz, h0, hnb, hnb', frozen, noView, viewAt, mayBeOne, stringish, shape, Sem.run, hsa, hsb, hfb, hfb', hfa, hfe]

theorem take_app {β : Type} {a b : List β} {n : Nat} (h : n ≤ a.length) : (a ++ b).take n = a.take n := List.take_append_of_le_length h
theorem drop_app {β : Type} {a b : List β} {n : Nat} (h : n = a.length) : (a ++ b).drop n = b := by subst h; simp

theorem insert_ok {t : Ty} {f S ov e tR : Nat} {i0 : TypeInfo} {z : Value} (W : InsWalk P f S ov t.size) (hS : P.underlying S = some (.slice e)) (h3 : P.underlying 3 = some (.int .i64)) (hi : P.info? e = some i0) (hsz : i0.size = t.size)
    (hpos : 0 < t.size) (hby : i0.bytes ≤ 1024) (hz : i0.zero = some z) (hzs : z.cells.size = t.size)
    (hov : ∃ fn, P.funcs[ov]? = some fn ∧ fn.body.isNone = true ∧ (fn.name == "runtime.NumGoroutine") = false ∧ Extern.findNext fn = none ∧ Extern.find fn = some (Extern.SlicesOverlaps.overlaps #[S, S] #[tR])) :
    XtSem P f (.insert t) := by
  intro args H σ H' B F g w vs h ha hH hB
  unfold extK at h
  split at h
  · rename_i heq; cases heq
  · rename_i heq; cases heq
  · rename_i heq; cases heq
  · rename_i t0 sv iz tx xs0 heq
    cases heq
    split at h
    · rename_i xs hxs
      obtain ⟨rfl, rfl⟩ := castL_some hxs
      clear hxs
      unfold insertK at h
      split at h
      · rename_i id sz n0
        split at h
        · rename_i t2 l0 hb
          split at h
          · rename_i l hl'
            obtain ⟨rfl, rfl⟩ := castL_some hl'
            clear hl'
            obtain ⟨hc, hK⟩ := cond_some h
            obtain ⟨hm, hi0, hil, hbig⟩ := of_decide_eq_true hc
            cases hK
            obtain ⟨i, rfl⟩ := Int.eq_ofNat_of_zero_le hi0
            simp only [Int.toNat_natCast]
            have hil : i ≤ l.length := by omega
            -- the arguments
            obtain ⟨u0, u1, u2, hvs, hs, hiv, hx⟩ : ∃ u0 u1 u2, vs = #[u0, u1, u2] ∧ VR2 F w g (.all id sz n0) u0 ∧ u1 = .int .i64 i ∧ VR2 F w g (.sl t2 xs) u2 := by
              cases hv : vs.toList with
              | nil => rw [hv] at ha; cases ha
              | cons u0 v1 =>
                rw [hv] at ha
                cases ha with
                | cons h1 ha =>
                  cases ha with
                  | cons h2 ha =>
                    cases ha with
                    | cons h3 ha =>
                      cases ha
                      exact ⟨_, _, _, Array.toList_inj.1 (by rw [hv]), h1, h2, h3⟩
            subst hvs hiv
            have hs' := hs
            obtain ⟨⟨⟨blk, off, sp⟩, esz, cap, en⟩, A, he, hn, hesz, hsp, rfl, hA, hnc⟩ := hs'
            simp only at hn hesz hsp hA hnc
            subst hsp
            obtain ⟨k1, k2, k3, k4, k5⟩ := hH.blk id _ _ hb he
            simp only at k1 k2 k3 k4 k5
            have hnl : n0 = l.length := by omega
            have hx0 : VR0 F w g (.sl t2 xs) u2 := hx
            obtain ⟨Ax, cx, rfl, hcx, hrx⟩ := asSl_rows (H := H) (v := .sl t2 xs) (t := t2) (l := xs) (by simp [asSl, castL?]) hx0 hH
            have hx1 : CR F w (.sl t2) xs [_] := hx0
            obtain ⟨cs, c1, c2, c3, c4⟩ := flat hrx xs.length (Nat.le_refl _)
            obtain ⟨A2, c2', he2, hc2', hrl⟩ := asSl_rows (t := t2) (l := l) (v := .all id sz n0) (by simp [asSl, hb, castL?]) hs hH
            rw [hnl] at he2
            cases he2
            obtain ⟨os, o1, o2, o3, o4⟩ := flat hrl l.length (Nat.le_refl _)
            have hfx : Flat F w t2 xs cs := ⟨c1, fun i x hx => c2 i x (idx_lt hx) hx⟩
            have hfl : Flat F w t2 l os := ⟨o1, fun i x hx => o2 i x (idx_lt hx) hx⟩
            have hfd := hfl.drop hil
            have hxd := hfx.append hfd
            subst hnl
            rcases Nat.eq_or_lt_of_le hil with rfl | hlt
            · -- at the end
              have hap : appendK t2 (.all id sz l.length) (.sl t2 xs) H (fun v H => some (v, H)) = some (.all H.length t2.size (l ++ xs).length, H.set id .dead ++ [.arr t2 (l ++ xs) false]) := by
                simp only [appendK, asSl, castL?, hb, dite_true]
                rw [decide_eq_true hbig]
                rfl
              obtain ⟨σ', H'', y, w', F', g', q0, q1, q2, q3, q4⟩ := appendK_ok (ty := 0) hS hS hi hsz hby hz hzs hap hs hx hH hB
              cases q0
              refine (W.w_end A l.length cap Ax xs.length cx w hm hnc (by omega) (fun ty => q1)).mono ?_
              rintro _ _ ⟨rfl, rfl⟩
              refine ⟨y, F', g', rfl, ?_, q3, ?_⟩
              · rw [List.take_length, List.drop_length, List.append_nil]; exact q2
              · rw [List.take_length, List.drop_length, List.append_nil]; exact q4
            · have hcap : 0 < cap := by omega
              have hA1 := hA hcap
              subst hA1
              obtain ⟨cur, el, k7, k8, k9⟩ := k5 hcap
              -- the row of the new elements
              obtain ⟨xb, xo, hAx, hne, cax, elx, frx, hxh, hxc⟩ : ∃ xb xo, Ax = some ⟨xb, xo, none⟩ ∧ xb ≠ blk ∧ ∃ ca ela fr, w.heap[xb]? = some (.cells ca ela fr) ∧ 0 < ca.size := by
                simp only [CR] at hx1
                obtain ⟨A', c', he', hc', hr'⟩ := hx1
                simp only [List.cons.injEq, and_true] at he'
                cases he'
                obtain ⟨ad, hA', hs', us, hcr, hl', hj'⟩ := hr' 0 _ (List.getElem?_eq_getElem hm)
                obtain ⟨hF0, hcell⟩ := hj' 0 _ (List.getElem?_eq_getElem (by omega))
                obtain ⟨ab, ao, asp⟩ := ad
                simp only at hs'
                subst hs'
                refine ⟨ab, ao, hA', fun hbk => ?_, ?_⟩
                · obtain ⟨t', l', hl', _⟩ := (hH.frz _ _ hF0).2 id _ _ hb he (show 0 < cap from hcap) hbk.symm
                  cases hl'
                · simp only [World.cell?] at hcell
                  cases hh : w.heap[ab]? with
                  | none => rw [hh] at hcell; cases hcell
                  | some o =>
                    rw [hh] at hcell
                    cases o with
                    | cells ca ela fr =>
                      simp only [Option.isSome_none, Bool.false_eq_true, if_false] at hcell
                      have := (Array.getElem?_eq_some_iff.1 hcell).1
                      exact ⟨ca, ela, fr, rfl, by omega⟩
                    | _ => cases hcell
              subst hAx
              have hcsrc : ∀ j v, cs[j]? = some v → w.cell? ⟨xb, xo + j, none⟩ = some v := fun j v hj => by
                obtain ⟨ad, p1, p2, p3⟩ := c3 j v hj
                cases p1
                exact p3
              have hosrc : ∀ j v, os[j]? = some v → w.cell? ⟨blk, off + j, none⟩ = some v := fun j v hj => by
                obtain ⟨ad, p1, p2, p3⟩ := o3 j v hj
                cases p1
                exact p3
              have hmul : i * t2.size ≤ l.length * t2.size := Nat.mul_le_mul_right _ hil
              have hml : (i + xs.length) * t2.size = i * t2.size + xs.length * t2.size := Nat.add_mul _ _ _
              have hdl : (os.drop (i * t2.size)).length = (l.length - i) * t2.size := by rw [List.length_drop, o1, Nat.sub_mul]
              have hsm : (l.length - i) * t2.size = l.length * t2.size - i * t2.size := Nat.sub_mul _ _ _
              have hod : ∀ v ∈ os.drop (i * t2.size), v.oneCell' = true := fun v hv => o4 v (List.mem_of_mem_drop hv)
              have hmn : Nat.min (l.length + xs.length - i) (l.length + xs.length - (i + xs.length)) = l.length - i := by simp only [Nat.min_def]; split <;> omega
              have hmx : Nat.min xs.length (l.length + xs.length - i) = xs.length := by simp only [Nat.min_def]; split <;> omega
              have hmg : Nat.min (l.length - i) (l.length + xs.length - (i + xs.length)) = l.length - i := by simp only [Nat.min_def]; split <;> omega
              have hadd : ∀ (b o j : Nat), (⟨b, o, none⟩ : Addr).add j = ⟨b, o + j, none⟩ := fun b o j => Addr.add_plain _ rfl _
              have hcl : cur.toList.length = cur.size := by simp
              rcases Nat.lt_or_ge cap (l.length + xs.length) with hout | hin
              · -- no room
                have hold : (Builtin.firstCells i0.size i (.slice (some ⟨blk, off, none⟩) i cap)).run P w.drew = .ok (os.take (i * t2.size)).toArray w.drew := by
                  rw [hsz]
                  refine run_firstCells (t := t2) (w := w.drew) (by rw [List.length_take, o1]; omega) fun m v hv => ⟨⟨blk, off, none⟩, rfl, rfl, ?_⟩
                  rw [List.getElem?_take] at hv
                  split at hv
                  · exact hosrc m v hv
                  · cases hv
                have hk : i + (l.length + xs.length - i) = l.length + xs.length := by omega
                have hrz := fun ty => Go.Lib.run_append_grow_zeros (P := P) w S 3 ty e i0 z .i64 .i64 hS h3 hi hz (some ⟨blk, off, none⟩) i cap (os.take (i * t2.size)) hold (l.length + xs.length - i) (by omega) (by omega) (by omega) (by omega)
                  (by have : (l.length + xs.length - i) * i0.bytes ≤ 4294967296 * 1024 := Nat.mul_le_mul (by omega) hby
                      omega)
                  (growslice_fits (by omega) (by
                    have : (i + (l.length + xs.length - i)) * i0.bytes ≤ 4294967296 * 1024 := Nat.mul_le_mul (by omega) hby
                    omega))
                simp only [hk] at hrz
                obtain ⟨G, hG⟩ : ∃ G, G = grownCap w (l.length + xs.length) cap e := ⟨_, rfl⟩
                have hGn : l.length + xs.length ≤ G := by rw [hG]; exact grownCap_ge w _ _ _
                rw [← hG] at hrz
                obtain ⟨ROW, hROW⟩ : ∃ ROW : Array Value, ROW = (os.take (i * t2.size)).toArray ++ Builtin.zeroCells z.cells (l.length + xs.length - i) ++ Builtin.zeroCells z.cells (G - (l.length + xs.length)) := ⟨_, rfl⟩
                rw [← hROW] at hrz
                have hzl : ∀ n, (Builtin.zeroCells z.cells n).toList.length = n * t2.size := fun n => by simp [Builtin.zeroCells, hzs]
                have hRl : ROW.toList.length = G * t2.size := by
                  rw [hROW]
                  simp only [Array.toList_append, List.length_append, hzl, List.length_take, o1]
                  have a1 : (l.length + xs.length - i) * t2.size = (l.length + xs.length) * t2.size - i * t2.size := Nat.sub_mul _ _ _
                  have a2 : (G - (l.length + xs.length)) * t2.size = G * t2.size - (l.length + xs.length) * t2.size := Nat.sub_mul _ _ _
                  have a3 : (l.length + xs.length) * t2.size ≤ G * t2.size := Nat.mul_le_mul_right _ hGn
                  have a4 : i * t2.size ≤ (l.length + xs.length) * t2.size := Nat.mul_le_mul_right _ (by omega)
                  omega
                have a3 : (l.length + xs.length) * t2.size ≤ G * t2.size := Nat.mul_le_mul_right _ hGn
                have a5 : (l.length + xs.length) * t2.size = l.length * t2.size + xs.length * t2.size := Nat.add_mul _ _ _
                have hRt : ROW.toList.take (i * t2.size) = os.take (i * t2.size) := by
                  rw [hROW, Array.toList_append, Array.toList_append, List.append_assoc, take_app (by simp; omega), List.toList_toArray, List.take_take, Nat.min_self]
                obtain ⟨R1, hR1⟩ : ∃ R1, R1 = ROW.toList.take (i * t2.size) ++ cs ++ ROW.toList.drop (i * t2.size + cs.length) := ⟨_, rfl⟩
                have hR1l : R1.length = G * t2.size := by
                  rw [hR1]; simp only [List.length_append, List.length_take, List.length_drop]; omega
                have hR1t : R1.take ((i + xs.length) * t2.size) = os.take (i * t2.size) ++ cs := by
                  rw [hR1, hRt, take_app (by simp only [List.length_append, List.length_take]; omega), List.take_of_length_le (by simp only [List.length_append, List.length_take]; omega)]
                obtain ⟨R2, hR2⟩ : ∃ R2, R2 = R1.take ((i + xs.length) * t2.size) ++ os.drop (i * t2.size) ++ R1.drop ((i + xs.length) * t2.size + (os.drop (i * t2.size)).length) := ⟨_, rfl⟩
                have hR2l : R2.length = G * t2.size := by
                  rw [hR2]; simp only [List.length_append, List.length_take, List.length_drop]; omega
                have hR2e : R2 = (os.take (i * t2.size) ++ (cs ++ os.drop (i * t2.size))) ++ R1.drop ((i + xs.length) * t2.size + (os.drop (i * t2.size)).length) := by
                  rw [hR2, hR1t]; simp only [List.append_assoc]
                obtain ⟨w1, hw1⟩ : ∃ w1, w1 = w.drew.alloc (.cells ROW e) := ⟨_, rfl⟩
                have hN : w1.heap[w.heap.size]? = some (.cells ROW e (0, 0)) := by rw [hw1]; exact alloc_get w.drew _
                have hlow : ∀ k, k < w.heap.size → w1.heap[k]? = w.heap[k]? := fun k hk => by rw [hw1]; exact Below.heap_alloc w.drew _ _ hk
                have hxlt : xb < w.heap.size := (Array.getElem?_eq_some_iff.1 hxh).1
                have hblt : blk < w.heap.size := (Array.getElem?_eq_some_iff.1 k7).1
                rw [← hw1] at hrz
                refine (W.w_grow blk off l.length cap i (some ⟨xb, xo, none⟩) xs.length cx w hlt hm hnc hout hbig hGn
                  (N := w.heap.size) (w1 := w1) (R1 := R1) (R2 := R2) (x := goInt (Nat.min xs.length (l.length + xs.length - i))) (y := goInt (Nat.min (l.length - i) (l.length + xs.length - (i + xs.length)))) (fun ty => ?_) (fun W0 ty dc hW => ?_) (fun W0 ty dc sc hW => ?_)).mono ?_
                · have := hrz ty
                  rw [show ((l.length + xs.length - i : Nat) : Int) = (l.length : Int) + (xs.length : Int) - (i : Int) by omega] at this
                  exact this
                · rw [hR1]
                  refine run_copy_row hS hi hsz (by rw [hmx, c1]) (fun j v hj => ?_) (by rw [hW]; exact hN) (by rw [← Array.length_toList, hRl]; omega) c4
                  rw [hadd, cell_heap hW, World.cell?, hlow _ hxlt]
                  exact hcsrc j v hj
                · rw [hR2]
                  have hb1 : W0.heap[w.heap.size]? = some (.cells R1.toArray e (0, 0)) := by rw [hW]; exact setRow_heap _ _ _ _ _ _ hN
                  have := run_copy_row (P := P) (ty := ty) (dCap := dc) (sCap := sc) hS hi hsz (W := W0) (b := w.heap.size) (o := (i + xs.length) * t2.size) (a := ⟨blk, off + i * t2.size, none⟩) (sLen := l.length - i) (dLen := l.length + xs.length - (i + xs.length)) (cs := os.drop (i * t2.size)) (by rw [hmg, hdl]) (fun j v hj => by
                    rw [hadd, cell_heap hW, cell_setRow_other _ _ _ _ (by show blk ≠ w.heap.size; omega), World.cell?, hlow _ hblt, Nat.add_assoc]
                    rw [List.getElem?_drop] at hj
                    exact hosrc _ v hj) hb1 (by rw [← Array.length_toList, List.toList_toArray, hR1l]; omega) hod
                  simpa using this
                · rintro _ w'' ⟨rfl, hheap, hos, htape, hout'⟩
                  have hheap2 : w''.heap = (w.drew.alloc (.cells R2.toArray e)).heap := by
                    rw [hheap, setRow_twice, hw1]; exact setRow_alloc w.drew _ _ _
                  obtain ⟨g', q2, q3, q4⟩ := new_arr (t := t2) false (l := l.take i ++ (xs ++ l.drop i)) (cells := R2.toArray) (el := e) (cap := G) (w1 := w.drew) (HR_kill (id := id) hH) hB (News.drew w) (by simp; omega) (by rw [← Array.length_toList, List.toList_toArray, hR2l]; exact Nat.le_refl _) (fun j x hx => by
                    obtain ⟨us, ha, hu⟩ := ((hfl.take hil).append hxd).2 j x hx
                    refine ⟨us, ha, fun q u hq => ?_⟩
                    have h1 := hu q u hq
                    rw [← Array.getElem?_toList, List.toList_toArray, hR2e, List.getElem?_append_left (idx_lt h1)]
                    exact h1)
                  have hnw := news_of_heap (w := w.drew.alloc (.cells R2.toArray e)) (w' := w'') hheap2 (by rw [hos, hw1]; rfl) (by rw [htape, hw1]; rfl) (by rw [hout', hw1]; rfl)
                  have hB2 : Bs B (w.drew.alloc (.cells R2.toArray e)) := hB.mono ((News.drew w).trans (News.alloc w.drew _)).size
                  refine ⟨_, F, g', rfl, ?_, q2.trans (hnw.gr q3 hB2), hnw.HR q3 hB2⟩
                  rw [List.length_set] at q4
                  have := VR0_gr (hnw.gr q3 hB2) q4
                  rw [show (l.take i ++ (xs ++ l.drop i)).length = l.length + xs.length by simp; omega] at this ⊢
                  exact this
              · -- there is room
                obtain ⟨w', g', hst, q2, q3, q4⟩ := append_in (P := P) (off := 0) (n0 := i) (xs := xs ++ l.drop i) (cs := cs ++ os.drop (i * t2.size)) hH hb he (by omega) (fun h => by cases h) (by simp only; omega) (by simp only [List.length_append, List.length_drop]; omega) hxd.1 (fun i x _ hx => hxd.2 i x hx) (fun v hv => (List.mem_append.1 hv).elim (c4 v) (hod v))
                simp only [List.drop_zero, Nat.zero_mul, Nat.add_zero, Nat.sub_zero] at hst q3 q4
                have hfitc : off + l.length * t2.size + xs.length * t2.size ≤ cur.size := by
                  have a : (l.length + xs.length) * t2.size ≤ cap * t2.size := Nat.mul_le_mul_right _ hin
                  rw [Nat.add_mul] at a
                  omega
                have hrun := run_storeCells_at (P := P) blk (off + i * t2.size) el (cs ++ os.drop (i * t2.size)) 0 cur w k7 (by simp only [List.length_append, hdl]; omega) (fun v hv => (List.mem_append.1 hv).elim (c4 v) (hod v))
                simp only [Nat.add_zero] at hrun
                rw [hst] at hrun
                cases hrun
                obtain ⟨R1, hR1⟩ : ∃ R1, R1 = cur.toList.take (off + (i + xs.length) * t2.size) ++ os.drop (i * t2.size) ++ cur.toList.drop (off + (i + xs.length) * t2.size + (os.drop (i * t2.size)).length) := ⟨_, rfl⟩
                obtain ⟨R2, hR2⟩ : ∃ R2, R2 = cur.toList.take (off + i * t2.size) ++ (cs ++ os.drop (i * t2.size)) ++ cur.toList.drop (off + i * t2.size + (cs ++ os.drop (i * t2.size)).length) := ⟨_, rfl⟩
                rw [← hR2] at q2 q3 q4
                have hR1l : R1.length = cur.size := by
                  rw [hR1]; simp only [List.length_append, List.length_take, List.length_drop]; omega
                have hR12 : R1.take (off + i * t2.size) ++ cs ++ R1.drop (off + i * t2.size + cs.length) = R2 := by
                  have e1 : R1.take (off + i * t2.size) = cur.toList.take (off + i * t2.size) := by
                    rw [hR1, take_app (by simp only [List.length_append, List.length_take]; omega), take_app (by simp only [List.length_take]; omega), List.take_take, Nat.min_eq_left (by omega)]
                  have e2 : R1.drop (off + i * t2.size + cs.length) = os.drop (i * t2.size) ++ cur.toList.drop (off + (i + xs.length) * t2.size + (os.drop (i * t2.size)).length) := by
                    rw [hR1, List.append_assoc, drop_app (by simp only [List.length_take]; omega)]
                  rw [e1, e2, hR2]
                  simp only [List.append_assoc, List.length_append]
                  congr 4
                  omega
                refine (W.w_shift blk off l.length cap i (some ⟨xb, xo, none⟩) xs.length cx w hlt hm hin hbig
                  (R1 := R1) (R2 := R2) (x := goInt (Nat.min (l.length + xs.length - i) (l.length + xs.length - (i + xs.length)))) (y := goInt (Nat.min xs.length (l.length + xs.length - i)))
                  (run_overlaps_own hS hi hov (a := ⟨xb, xo, none⟩) (b := ⟨blk, _, none⟩) hne hxh k7 hxc (by have : 0 < cap * t2.size := Nat.mul_pos hcap hpos; omega) _ _ _ _) (fun W0 ty dc sc hW => ?_) (fun W0 ty dc hW => ?_)).mono ?_
                · rw [hR1]
                  refine run_copy_row hS hi hsz (by rw [hmn, hdl]) (fun j v hj => ?_) (by rw [hW]; exact k7) (by omega) hod
                  rw [hadd, cell_heap hW, Nat.add_assoc]
                  rw [List.getElem?_drop] at hj
                  exact hosrc _ v hj
                · have hb1 : W0.heap[blk]? = some (.cells R1.toArray el (0, 0)) := by rw [hW]; exact setRow_heap _ _ _ _ _ _ k7
                  have := run_copy_row (P := P) (ty := ty) (dCap := dc) (sCap := cx) hS hi hsz (W := W0) (b := blk) (o := off + i * t2.size) (a := ⟨xb, xo, none⟩) (sLen := xs.length) (dLen := l.length + xs.length - i) (cs := cs) (by rw [hmx, c1]) (fun j v hj => by
                    rw [hadd, cell_heap hW, cell_setRow_other _ _ _ _ hne]
                    exact hcsrc j v hj) hb1 (by rw [← Array.length_toList, List.toList_toArray, hR1l]; omega) c4
                  rw [List.toList_toArray, hR12] at this
                  exact this
                · rintro _ w'' ⟨rfl, hheap, hos, htape, hout'⟩
                  have hheap2 : w''.heap = (w.setRow blk R2.toArray).heap := by rw [hheap, setRow_twice]
                  have hnw := news_of_heap (w := w.setRow blk R2.toArray) (w' := w'') hheap2 (by rw [hos]; rfl) (by rw [htape]; rfl) (by rw [hout']; rfl)
                  have hB2 : Bs B (w.setRow blk R2.toArray) := hB.mono q2.below.size
                  refine ⟨_, F, g', rfl, ?_, q2.trans (hnw.gr q3 hB2), hnw.HR q3 hB2⟩
                  have := VR0_gr (hnw.gr q3 hB2) q4
                  rw [show i + (xs ++ l.drop i).length = l.length + xs.length by simp; omega] at this
                  exact this
          · cases h
        · cases h
      · cases h
    · cases h
  · cases h

def infoChk (P : Program) (e : TypeId) (sz : Nat) : Bool := match P.info? e with
  | some i => match i.zero with
    | some z => i.size == sz && Nat.ble i.bytes 1024 && z.cells.size == sz
    | none => false
  | none => false
theorem infoChk_ok {e : TypeId} {sz : Nat} (h : infoChk P e sz = true) : ∃ i z, P.info? e = some i ∧ i.size = sz ∧ i.bytes ≤ 1024 ∧ i.zero = some z ∧ z.cells.size = sz := by
  unfold infoChk at h
  split at h
  · rename_i i hi
    split at h
    · rename_i z hz
      simp only [Bool.and_eq_true, beq_iff_eq] at h
      exact ⟨i, z, hi, h.1.1, Nat.le_of_ble_eq_true h.1.2, hz, h.2⟩
    · cases h
  · cases h
theorem insert_one {t : Ty} {f S ov e tR : Nat} (W : InsWalk P f S ov t.size) (hS : P.underlying S = some (.slice e)) (h3 : P.underlying 3 = some (.int .i64)) (hi : infoChk P e t.size = true) (hpos : 0 < t.size)
    (hov : ∃ fn, P.funcs[ov]? = some fn ∧ fn.body.isNone = true ∧ (fn.name == "runtime.NumGoroutine") = false ∧ Extern.findNext fn = none ∧ Extern.find fn = some (Extern.SlicesOverlaps.overlaps #[S, S] #[tR]))
    (hf : ∃ fn, P.funcs[f]? = some fn ∧ fn.body.isSome = true ∧ (fn.name == "runtime.NumGoroutine") = false) : XtOne P f (.insert t) := by
  obtain ⟨i, z, h1, h2, h4, h5, h6⟩ := infoChk_ok hi
  exact ⟨fun h => (by cases h), fun _ => ⟨hf, insert_ok W hS h3 h1 h2 hpos h4 h5 h6 hov⟩⟩
end
end Go.Proofs.YtjklgmflillagaaDoor.Ev
