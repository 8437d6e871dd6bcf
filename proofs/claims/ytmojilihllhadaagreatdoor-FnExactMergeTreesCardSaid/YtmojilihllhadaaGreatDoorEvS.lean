/- The evaluator: EvI, EvS. -/
import Derived.Test.YtmojilihllhadaaGreatDoorEv18
import Derived.Lib.AppendZerosOnto
import Derived.Laws.NewBlocks
/- slices.Insert: the contract, out of the walks of its text. -/
namespace Go.Proofs.YtmojilihllhadaaGreatDoor.Ev
open Go Go.RowKit
set_option linter.unusedVariables false
set_option linter.unusedSimpArgs false
structure InsWalk (P : Program) (f : FuncId) (S : TypeId) (ov : FuncId) (sz : Nat) : Prop where
  w_end : ∀ (base : Option Addr) (n c : Nat) (vb : Option Addr) (m vc : Nat) (w : World), 0 < m → n ≤ c → n < 4294967296 → ∀ {r : Value} {w' : World},
    (∀ ty, (Builtin.append_ #[S, S] ty #[.slice base n c, .slice vb m vc]).run P w = .ok r w') →
    Calls P f #[.slice base n c, .int .i64 n, .slice vb m vc] w fun e w'' => e = .returned r ∧ w'' = w'
  w_shift : ∀ (b off n c i : Nat) (vb : Option Addr) (m vc : Nat) (w : World), i < n → 0 < m → n + m ≤ c → n + m < 4294967296 → ∀ {x y : Value} {R1 R2 : List Value},
    (callFunc ov #[.slice vb m vc, .slice (some ⟨b, off + (i + m) * sz, none⟩) (n + m - (i + m)) (c - (i + m))]).run P w = .ok (.value (.bool false)) w →
    (∀ W ty dc sc, W.heap = w.heap → (Builtin.copy_ #[S, S] ty #[.slice (some ⟨b, off + (i + m) * sz, none⟩) (n + m - (i + m)) dc, .slice (some ⟨b, off + i * sz, none⟩) (n + m - i) sc]).run P W = .ok x (W.setRow b R1.toArray)) →
    (∀ W ty dc, W.heap = (w.setRow b R1.toArray).heap → (Builtin.copy_ #[S, S] ty #[.slice (some ⟨b, off + i * sz, none⟩) (n + m - i) dc, .slice vb m vc]).run P W = .ok y (W.setRow b R2.toArray)) →
    Calls P f #[.slice (some ⟨b, off, none⟩) n c, .int .i64 i, .slice vb m vc] w fun e w'' =>
      e = .returned (.slice (some ⟨b, off, none⟩) (n + m) c) ∧ w''.heap = ((w.setRow b R1.toArray).setRow b R2.toArray).heap ∧ w''.os = w.os ∧ w''.tape = w.tape ∧ w''.output = w.output
  w_grow : ∀ (b off n c i : Nat) (vb : Option Addr) (m vc : Nat) (w : World), i < n → 0 < m → n ≤ c → c < n + m → n + m < 4294967296 → ∀ {x y : Value} {R1 R2 : List Value} {N G : Nat} {w1 : World}, n + m ≤ G →
    (∀ ty, (Builtin.append_ #[S, 3] ty #[.slice (some ⟨b, off, none⟩) i c, .int .i64 ((n : Int) + (m : Int) - (i : Int))]).run P w = .ok (.slice (some ⟨N, 0, none⟩) (n + m) G) w1) →
    (∀ W ty dc, W.heap = w1.heap → (Builtin.copy_ #[S, S] ty #[.slice (some ⟨N, i * sz, none⟩) (n + m - i) dc, .slice vb m vc]).run P W = .ok x (W.setRow N R1.toArray)) →
    (∀ W ty dc sc, W.heap = (w1.setRow N R1.toArray).heap → (Builtin.copy_ #[S, S] ty #[.slice (some ⟨N, (i + m) * sz, none⟩) (n + m - (i + m)) dc, .slice (some ⟨b, off + i * sz, none⟩) (n - i) sc]).run P W = .ok y (W.setRow N R2.toArray)) →
    Calls P f #[.slice (some ⟨b, off, none⟩) n c, .int .i64 i, .slice vb m vc] w fun e w'' =>
      e = .returned (.slice (some ⟨N, 0, none⟩) (n + m) G) ∧ w''.heap = ((w1.setRow N R1.toArray).setRow N R2.toArray).heap ∧ w''.os = w1.os ∧ w''.tape = w1.tape ∧ w''.output = w1.output
section
variable {α : Type} {P : Program} {E : Env} {B : Nat → Prop} {F : Fz} {g : List GE} {w : World} {H : Hp}
def Flat (F : Fz) (w : World) (t : Ty) (l : List t.den) (cs : List Value) : Prop :=
  cs.length = l.length * t.size ∧ ∀ i x, l[i]? = some x → ∃ us, CR F w t x us ∧ ∀ j u, us[j]? = some u → cs[i * t.size + j]? = some u
theorem Flat.append {t : Ty} {l m : List t.den} {cs ds : List Value} (h : Flat F w t l cs) (k : Flat F w t m ds) : Flat F w t (l ++ m) (cs ++ ds) := by
  refine ⟨by simp [h.1, k.1, Nat.add_mul], fun i x hx => ?_⟩
  rcases Nat.lt_or_ge i l.length with hi | hi
  · rw [List.getElem?_append_left hi] at hx
    obtain ⟨us, ha, hu⟩ := h.2 i x hx
    refine ⟨us, ha, fun j u hj => ?_⟩
    have := hu j u hj
    rw [List.getElem?_append_left (idx_lt this)]; exact this
  · rw [List.getElem?_append_right hi] at hx
    obtain ⟨us, ha, hu⟩ := k.2 _ x hx
    refine ⟨us, ha, fun j u hj => ?_⟩
    have := hu j u hj
    have hmul : (i - l.length) * t.size = i * t.size - l.length * t.size := Nat.sub_mul _ _ _
    have hle : l.length * t.size ≤ i * t.size := Nat.mul_le_mul_right _ hi
    rw [List.getElem?_append_right (by rw [h.1]; omega), h.1, ← this]
    congr 1; omega
theorem Flat.take {t : Ty} {l : List t.den} {cs : List Value} (h : Flat F w t l cs) {n : Nat} (hn : n ≤ l.length) : Flat F w t (l.take n) (cs.take (n * t.size)) := by
  have hle : n * t.size ≤ l.length * t.size := Nat.mul_le_mul_right _ hn
  refine ⟨by rw [List.length_take, List.length_take, h.1, Nat.min_eq_left hn, Nat.min_eq_left hle], fun i x hx => ?_⟩
  rw [List.getElem?_take] at hx
  split at hx
  · rename_i hi
    obtain ⟨us, ha, hu⟩ := h.2 i x hx
    refine ⟨us, ha, fun j u hj => ?_⟩
    have hj' := idx_lt hj
    rw [CR_len _ _ _ ha] at hj'
    rw [List.getElem?_take, if_pos (mul_lt_of hi hj')]
    exact hu j u hj
  · cases hx
theorem Flat.drop {t : Ty} {l : List t.den} {cs : List Value} (h : Flat F w t l cs) {n : Nat} (hn : n ≤ l.length) : Flat F w t (l.drop n) (cs.drop (n * t.size)) := by
  refine ⟨by simp [h.1, Nat.sub_mul], fun i x hx => ?_⟩
  rw [List.getElem?_drop] at hx
  obtain ⟨us, ha, hu⟩ := h.2 (n + i) x hx
  refine ⟨us, ha, fun j u hj => ?_⟩
  have := hu j u hj
  rw [List.getElem?_drop, ← this]
  congr 1
  rw [Nat.add_mul]; omega
theorem cell_heap {W w : World} (h : W.heap = w.heap) (a : Addr) : W.cell? a = w.cell? a := by simp [World.cell?, h]
theorem run_copy_row {S e : TypeId} {i0 : TypeInfo} {sz : Nat} (hu : P.underlying S = some (.slice e)) (hi : P.info? e = some i0) (hsz : i0.size = sz) {W : World} {ty : TypeId} {b o dLen dCap sLen sCap : Nat} {a : Addr} {cs : List Value}
    (hn : cs.length = Nat.min sLen dLen * sz) (hsrc : ∀ j v, cs[j]? = some v → W.cell? (a.add j) = some v) {cur : Array Value} {el : TypeId} (hb : W.heap[b]? = some (.cells cur el (0, 0))) (hfit : o + cs.length ≤ cur.size) (h1 : ∀ v ∈ cs, v.oneCell' = true) :
    (Builtin.copy_ #[S, S] ty #[.slice (some ⟨b, o, none⟩) dLen dCap, .slice (some a) sLen sCap]).run P W = .ok (goInt (Nat.min sLen dLen)) (W.setRow b (cur.toList.take o ++ cs ++ cur.toList.drop (o + cs.length)).toArray) := by
  have hl := run_loadCells_list (P := P) W a cs hsrc
  have hst := run_storeCells_at (P := P) b o el cs 0 cur W hb (by omega) h1
  simp only [Nat.add_zero] at hst
  rw [hn] at hl
  simp [Builtin.copy_, run_underlying hu, Builtin.lenOf, Builtin.firstCells, sizeOf, typeInfo, hi, hsz, hl, hst]
theorem setRow_twice (w : World) (b : Nat) (r s : Array Value) : ((w.setRow b r).setRow b s).heap = (w.setRow b s).heap := by
  apply Array.ext_getElem?
  intro k
  by_cases hk : k = b
  · subst hk
    simp only [World.setRow, Array.getElem?_modify, if_true]
    cases w.heap[k]? with
    | none => rfl
    | some o => cases o <;> rfl
  · rw [setRow_other _ _ _ _ hk, setRow_other _ _ _ _ hk, setRow_other _ _ _ _ hk]
theorem setRow_alloc (w : World) (c r : Array Value) (el : TypeId) : ((w.alloc (.cells c el)).setRow w.heap.size r).heap = (w.alloc (.cells r el)).heap := by
  have e1 : (w.alloc (.cells c el)).heap = w.heap.push (.cells c el) := rfl
  have e2 : (w.alloc (.cells r el)).heap = w.heap.push (.cells r el) := rfl
  apply Array.ext_getElem?
  intro k
  by_cases hk : k = w.heap.size
  · subst hk
    rw [setRow_heap _ _ c _ el (0, 0) (by rw [e1]; simp), e2]; simp
  · rw [setRow_other _ _ _ _ hk, e1, e2, Array.getElem?_push, Array.getElem?_push, if_neg hk, if_neg hk]
theorem news_of_heap {w w' : World} (hh : w'.heap = w.heap) (hos : w'.os = w.os) (ht : w'.tape = w.tape) (ho : w'.output = w.output) : News w w' :=
  ⟨hos, ht, ho, by rw [hh]; exact Nat.le_refl _, fun _ _ => by rw [hh]⟩
theorem run_overlaps_own {S tR e ov : TypeId} (hS : P.underlying S = some (.slice e)) {i0 : TypeInfo} (hi : P.info? e = some i0)
    (hov : ∃ fn, P.funcs[ov]? = some fn ∧ fn.body.isNone = true ∧ (fn.name == "runtime.NumGoroutine") = false ∧ Extern.findNext fn = none ∧ Extern.find fn = some (Extern.SlicesOverlaps.overlaps #[S, S] #[tR]))
    {a b : Addr} (hne : a.block ≠ b.block) {ca cb : Array Value} {ela elb : TypeId} {fr : Nat × Nat} (ha : w.heap[a.block]? = some (.cells ca ela fr)) (hb : w.heap[b.block]? = some (.cells cb elb (0, 0))) (hca : 0 < ca.size) (hcb : 0 < cb.size) (la lca lb lcb : Nat) :
    (callFunc ov #[.slice (some a) la lca, .slice (some b) lb lcb]).run P w = .ok (.value (.bool false)) w := by
  obtain ⟨fn, f1, f2, f3, f4, f5⟩ := hov
  rw [run_callFunc_extern f1 f3 f2 f4 f5]
  have hnb : (a.block != b.block) = true := by simpa using hne
  have hnb' : (a.block == b.block) = false := by simpa using hne
  have hz : ∀ w, (Go.sizeOf e).run P w = .ok i0.size w := fun w => by simp [sizeOf, typeInfo, hi]
  have hsa : w.shape? a.block = some (ela, ca.size) := by simp [World.shape?, ha]
  have hsb : w.shape? b.block = some (elb, cb.size) := by simp [World.shape?, hb]
  have hfb : ∀ o s, w.frozen? ⟨b.block, o, s⟩ = false := fun o s => by simp [World.frozen?, hb]
  have hfb' : w.frozen? b = false := hfb b.off b.spot
  obtain ⟨k, hk⟩ : ∃ k, cb.size = k + 1 := ⟨cb.size - 1, by omega⟩
  rw [hk] at hsb
  obtain ⟨k2, hk2⟩ : ∃ k, ca.size = k + 1 := ⟨ca.size - 1, by omega⟩
  rw [hk2] at hsa
  change (Sem.run P (α := Value) (do
    let some t := (#[S, S] : Array TypeId)[0]? | stuck "slices.overlaps: no parameter types"
    let .slice elem ← underlying t | stuck "slices.overlaps: slice type expected"
    let size ← sizeOf elem
    match (some a : Option Addr), (some b : Option Addr) with
    | some a, some b =>
      if la = 0 ∨ lb = 0 ∨ size = 0 then pure (Value.bool false)
      else if a.block != b.block && (← frozen a) && (← frozen b) then unsupported .addressObserved
      else do
        if a.block != b.block then do
          noView a; noView b
          if ← mayBeOne a b then return Value.bool ((← choose (.extern "sameAddr.stringBytes" 2)) == 1)
        pure (Value.bool (a.block == b.block && a.off < b.off + lb * size && b.off < a.off + la * size))
    | _, _ => pure (Value.bool false)) w).andThen _ = _
  by_cases h0 : la = 0 ∨ lb = 0 ∨ i0.size = 0
  · simp [run_underlying hS, hz, h0]
  · cases hfa : w.frozen? a with
    | true => simp [run_underlying hS, hz, h0, hnb, hnb', frozen, noView, viewAt, mayBeOne, stringish, shape, Sem.run, hsa, hsb, hfb, hfb', hfa]
    | false =>
      cases hfe : w.frozen? { block := a.block, off := k2 + 1 } <;> simp [run_underlying hS, hz, h0, hnb, hnb', frozen, noView, viewAt, mayBeOne, stringish, shape, Sem.run, hsa, hsb, hfb, hfb', hfa, hfe]
theorem take_app {β : Type} {a b : List β} {n : Nat} (h : n ≤ a.length) : (a ++ b).take n = a.take n := List.take_append_of_le_length h
theorem drop_app {β : Type} {a b : List β} {n : Nat} (h : n = a.length) : (a ++ b).drop n = b := by subst h; simp
theorem insert_ok {t : Ty} {f S ov e tR : Nat} {i0 : TypeInfo} {z : Value} (hu : t = .int .u8 → e = u8T) (W : InsWalk P f S ov t.size) (hS : P.underlying S = some (.slice e)) (h3 : P.underlying 3 = some (.int .i64)) (hi : P.info? e = some i0) (hsz : i0.size = t.size)
    (hpos : 0 < t.size) (hby : i0.bytes ≤ 1024) (hz : i0.zero = some z) (hzs : z.cells.size = t.size)
    (hov : ∃ fn, P.funcs[ov]? = some fn ∧ fn.body.isNone = true ∧ (fn.name == "runtime.NumGoroutine") = false ∧ Extern.findNext fn = none ∧ Extern.find fn = some (Extern.SlicesOverlaps.overlaps #[S, S] #[tR])) :
    XtSem P E f (.insert t) := by
  intro args H σ H' B F g w vs h ha hH hB hG
  unfold extK at h
  split at h
  · rename_i heq; cases heq
  · rename_i heq; cases heq
  · rename_i heq; cases heq
  · rename_i t0 sv iz tx xs0 heq
    cases heq
    split at h
    · rename_i xs hxs
      obtain ⟨rfl, rfl⟩ := castL_some hxs
      clear hxs
      unfold insertK at h
      split at h
      · rename_i id sz n0
        split at h
        · rename_i t2 l0 hb
          split at h
          · rename_i l hl'
            obtain ⟨rfl, rfl⟩ := castL_some hl'
            clear hl'
            obtain ⟨hc, hK⟩ := cond_some h
            obtain ⟨hm, hi0, hil, hbig⟩ := of_decide_eq_true hc
            cases hK
            obtain ⟨i, rfl⟩ := Int.eq_ofNat_of_zero_le hi0
            simp only [Int.toNat_natCast]
            have hil : i ≤ l.length := by omega
            obtain ⟨u0, u1, u2, hvs, hs, hiv, hx⟩ : ∃ u0 u1 u2, vs = #[u0, u1, u2] ∧ VR2 F w g (.all id sz n0) u0 ∧ u1 = .int .i64 i ∧ VR2 F w g (.sl t2 xs) u2 := by
              cases hv : vs.toList with
              | nil => rw [hv] at ha; cases ha
              | cons u0 v1 =>
                rw [hv] at ha
                cases ha with
                | cons h1 ha =>
                  cases ha with
                  | cons h2 ha =>
                    cases ha with
                    | cons h3 ha =>
                      cases ha
                      exact ⟨_, _, _, Array.toList_inj.1 (by rw [hv]), h1, h2, h3⟩
            subst hvs hiv
            have hs' := hs
            obtain ⟨⟨⟨blk, off, sp⟩, esz, cap, en⟩, A, he, hn, hesz, hsp, rfl, hA, hnc⟩ := hs'
            simp only at hn hesz hsp hA hnc
            subst hsp
            obtain ⟨k1, k2, k3, k4, k5⟩ := hH.blk id _ _ hb he
            simp only at k1 k2 k3 k4 k5
            have hnl : n0 = l.length := by omega
            have hx0 : VR0 F w g (.sl t2 xs) u2 := hx
            obtain ⟨Ax, cx, rfl, hcx, hrx⟩ := asSl_rows (H := H) (v := .sl t2 xs) (t := t2) (l := xs) (by simp [asSl, castL?]) hx0 hH
            have hx1 : CR F w (.sl t2) xs [_] := hx0
            obtain ⟨cs, c1, c2, c3, c4⟩ := flat hrx xs.length (Nat.le_refl _)
            obtain ⟨A2, c2', he2, hc2', hrl⟩ := asSl_rows (t := t2) (l := l) (v := .all id sz n0) (by simp [asSl, hb, castL?]) hs hH
            rw [hnl] at he2
            cases he2
            obtain ⟨os, o1, o2, o3, o4⟩ := flat hrl l.length (Nat.le_refl _)
            have hfx : Flat F w t2 xs cs := ⟨c1, fun i x hx => c2 i x (idx_lt hx) hx⟩
            have hfl : Flat F w t2 l os := ⟨o1, fun i x hx => o2 i x (idx_lt hx) hx⟩
            have hfd := hfl.drop hil
            have hxd := hfx.append hfd
            subst hnl
            rcases Nat.eq_or_lt_of_le hil with rfl | hlt
            · -- at the end
              have hap : appendK t2 (.all id sz l.length) (.sl t2 xs) H (fun v H => some (v, H)) = some (.all H.length t2.size (l ++ xs).length, H.set id .dead ++ [.arr t2 (l ++ xs) false]) := by
                simp only [appendK, asSl, castL?, hb, dite_true]
                rw [decide_eq_true hbig]
                rfl
              obtain ⟨σ', H'', y, w', F', g', q0, q1, q2, q3, q4⟩ := appendK_ok (ty := 0) hS hS hi hsz hby hz hzs hu hap hs hx hH hB
              cases q0
              refine (W.w_end A l.length cap Ax xs.length cx w hm hnc (by omega) (fun ty => q1)).mono ?_
              rintro _ _ ⟨rfl, rfl⟩
              refine ⟨y, F', g', rfl, ?_, q3, ?_⟩
              · rw [List.take_length, List.drop_length, List.append_nil]; exact q2
              · rw [List.take_length, List.drop_length, List.append_nil]; exact q4
            · have hcap : 0 < cap := by omega
              have hA1 := hA hcap
              subst hA1
              obtain ⟨cur, el, k7, ku, k8, k9⟩ := k5 hcap
              obtain ⟨xb, xo, hAx, hne, cax, elx, frx, hxh, hxc⟩ : ∃ xb xo, Ax = some ⟨xb, xo, none⟩ ∧ xb ≠ blk ∧ ∃ ca ela fr, w.heap[xb]? = some (.cells ca ela fr) ∧ 0 < ca.size := by
                simp only [CR] at hx1
                obtain ⟨A', c', he', hc', hr'⟩ := hx1
                simp only [List.cons.injEq, and_true] at he'
                cases he'
                obtain ⟨ad, hA', hs', us, hcr, hl', hj'⟩ := hr' 0 _ (List.getElem?_eq_getElem hm)
                obtain ⟨hF0, hcell⟩ := hj' 0 _ (List.getElem?_eq_getElem (by omega))
                obtain ⟨ab, ao, asp⟩ := ad
                simp only at hs'
                subst hs'
                refine ⟨ab, ao, hA', fun hbk => ?_, ?_⟩
                · obtain ⟨t', l', hl', _⟩ := (hH.frz _ _ hF0).2 id _ _ hb he (show 0 < cap from hcap) hbk.symm
                  cases hl'
                · simp only [World.cell?] at hcell
                  cases hh : w.heap[ab]? with
                  | none => rw [hh] at hcell; cases hcell
                  | some o =>
                    rw [hh] at hcell
                    cases o with
                    | cells ca ela fr =>
                      simp only [Option.isSome_none, Bool.false_eq_true, if_false] at hcell
                      have := (Array.getElem?_eq_some_iff.1 hcell).1
                      exact ⟨ca, ela, fr, rfl, by omega⟩
                    | _ => cases hcell
              subst hAx
              have hcsrc : ∀ j v, cs[j]? = some v → w.cell? ⟨xb, xo + j, none⟩ = some v := fun j v hj => by
                obtain ⟨ad, p1, p2, p3⟩ := c3 j v hj
                cases p1
                exact p3
              have hosrc : ∀ j v, os[j]? = some v → w.cell? ⟨blk, off + j, none⟩ = some v := fun j v hj => by
                obtain ⟨ad, p1, p2, p3⟩ := o3 j v hj
                cases p1
                exact p3
              have hmul : i * t2.size ≤ l.length * t2.size := Nat.mul_le_mul_right _ hil
              have hml : (i + xs.length) * t2.size = i * t2.size + xs.length * t2.size := Nat.add_mul _ _ _
              have hdl : (os.drop (i * t2.size)).length = (l.length - i) * t2.size := by rw [List.length_drop, o1, Nat.sub_mul]
              have hsm : (l.length - i) * t2.size = l.length * t2.size - i * t2.size := Nat.sub_mul _ _ _
              have hod : ∀ v ∈ os.drop (i * t2.size), v.oneCell' = true := fun v hv => o4 v (List.mem_of_mem_drop hv)
              have hmn : Nat.min (l.length + xs.length - i) (l.length + xs.length - (i + xs.length)) = l.length - i := by simp only [Nat.min_def]; split <;> omega
              have hmx : Nat.min xs.length (l.length + xs.length - i) = xs.length := by simp only [Nat.min_def]; split <;> omega
              have hmg : Nat.min (l.length - i) (l.length + xs.length - (i + xs.length)) = l.length - i := by simp only [Nat.min_def]; split <;> omega
              have hadd : ∀ (b o j : Nat), (⟨b, o, none⟩ : Addr).add j = ⟨b, o + j, none⟩ := fun b o j => Addr.add_plain _ rfl _
              have hcl : cur.toList.length = cur.size := by simp
              rcases Nat.lt_or_ge cap (l.length + xs.length) with hout | hin
              · -- no room
                have hold : (Builtin.firstCells i0.size i (.slice (some ⟨blk, off, none⟩) i cap)).run P w.drew = .ok (os.take (i * t2.size)).toArray w.drew := by
                  rw [hsz]
                  refine run_firstCells (t := t2) (w := w.drew) (by rw [List.length_take, o1]; omega) fun m v hv => ⟨⟨blk, off, none⟩, rfl, rfl, ?_⟩
                  rw [List.getElem?_take] at hv
                  split at hv
                  · exact hosrc m v hv
                  · cases hv
                have hk : i + (l.length + xs.length - i) = l.length + xs.length := by omega
                have hrz := fun ty => Go.Lib.run_append_grow_zeros (P := P) w S 3 ty e i0 z .i64 .i64 hS h3 hi hz (some ⟨blk, off, none⟩) i cap (os.take (i * t2.size)) hold (l.length + xs.length - i) (by omega) (by omega) (by omega) (by omega)
                  (by have : (l.length + xs.length - i) * i0.bytes ≤ 4294967296 * 1024 := Nat.mul_le_mul (by omega) hby
                      omega)
                  (growslice_fits (by omega) (by
                    have : (i + (l.length + xs.length - i)) * i0.bytes ≤ 4294967296 * 1024 := Nat.mul_le_mul (by omega) hby
                    omega))
                simp only [hk] at hrz
                obtain ⟨G, hG⟩ : ∃ G, G = grownCap w (l.length + xs.length) cap e := ⟨_, rfl⟩
                have hGn : l.length + xs.length ≤ G := by rw [hG]; exact grownCap_ge w _ _ _
                rw [← hG] at hrz
                obtain ⟨ROW, hROW⟩ : ∃ ROW : Array Value, ROW = (os.take (i * t2.size)).toArray ++ Builtin.zeroCells z.cells (l.length + xs.length - i) ++ Builtin.zeroCells z.cells (G - (l.length + xs.length)) := ⟨_, rfl⟩
                rw [← hROW] at hrz
                have hzl : ∀ n, (Builtin.zeroCells z.cells n).toList.length = n * t2.size := fun n => by simp [Builtin.zeroCells, hzs]
                have hRl : ROW.toList.length = G * t2.size := by
                  rw [hROW]
                  simp only [Array.toList_append, List.length_append, hzl, List.length_take, o1]
                  have a1 : (l.length + xs.length - i) * t2.size = (l.length + xs.length) * t2.size - i * t2.size := Nat.sub_mul _ _ _
                  have a2 : (G - (l.length + xs.length)) * t2.size = G * t2.size - (l.length + xs.length) * t2.size := Nat.sub_mul _ _ _
                  have a3 : (l.length + xs.length) * t2.size ≤ G * t2.size := Nat.mul_le_mul_right _ hGn
                  have a4 : i * t2.size ≤ (l.length + xs.length) * t2.size := Nat.mul_le_mul_right _ (by omega)
                  omega
                have a3 : (l.length + xs.length) * t2.size ≤ G * t2.size := Nat.mul_le_mul_right _ hGn
                have a5 : (l.length + xs.length) * t2.size = l.length * t2.size + xs.length * t2.size := Nat.add_mul _ _ _
                have hRt : ROW.toList.take (i * t2.size) = os.take (i * t2.size) := by
                  rw [hROW, Array.toList_append, Array.toList_append, List.append_assoc, take_app (by simp; omega), List.toList_toArray, List.take_take, Nat.min_self]
                obtain ⟨R1, hR1⟩ : ∃ R1, R1 = ROW.toList.take (i * t2.size) ++ cs ++ ROW.toList.drop (i * t2.size + cs.length) := ⟨_, rfl⟩
                have hR1l : R1.length = G * t2.size := by
                  rw [hR1]; simp only [List.length_append, List.length_take, List.length_drop]; omega
                have hR1t : R1.take ((i + xs.length) * t2.size) = os.take (i * t2.size) ++ cs := by
                  rw [hR1, hRt, take_app (by simp only [List.length_append, List.length_take]; omega), List.take_of_length_le (by simp only [List.length_append, List.length_take]; omega)]
                obtain ⟨R2, hR2⟩ : ∃ R2, R2 = R1.take ((i + xs.length) * t2.size) ++ os.drop (i * t2.size) ++ R1.drop ((i + xs.length) * t2.size + (os.drop (i * t2.size)).length) := ⟨_, rfl⟩
                have hR2l : R2.length = G * t2.size := by
                  rw [hR2]; simp only [List.length_append, List.length_take, List.length_drop]; omega
                have hR2e : R2 = (os.take (i * t2.size) ++ (cs ++ os.drop (i * t2.size))) ++ R1.drop ((i + xs.length) * t2.size + (os.drop (i * t2.size)).length) := by
                  rw [hR2, hR1t]; simp only [List.append_assoc]
                obtain ⟨w1, hw1⟩ : ∃ w1, w1 = w.drew.alloc (.cells ROW e) := ⟨_, rfl⟩
                have hN : w1.heap[w.heap.size]? = some (.cells ROW e (0, 0)) := by rw [hw1]; exact alloc_get w.drew _
                have hlow : ∀ k, k < w.heap.size → w1.heap[k]? = w.heap[k]? := fun k hk => by rw [hw1]; exact Below.heap_alloc w.drew _ _ hk
                have hxlt : xb < w.heap.size := (Array.getElem?_eq_some_iff.1 hxh).1
                have hblt : blk < w.heap.size := (Array.getElem?_eq_some_iff.1 k7).1
                rw [← hw1] at hrz
                refine (W.w_grow blk off l.length cap i (some ⟨xb, xo, none⟩) xs.length cx w hlt hm hnc hout hbig hGn
                  (N := w.heap.size) (w1 := w1) (R1 := R1) (R2 := R2) (x := goInt (Nat.min xs.length (l.length + xs.length - i))) (y := goInt (Nat.min (l.length - i) (l.length + xs.length - (i + xs.length)))) (fun ty => ?_) (fun W0 ty dc hW => ?_) (fun W0 ty dc sc hW => ?_)).mono ?_
                · have := hrz ty
                  rw [show ((l.length + xs.length - i : Nat) : Int) = (l.length : Int) + (xs.length : Int) - (i : Int) by omega] at this
                  exact this
                · rw [hR1]
                  refine run_copy_row hS hi hsz (by rw [hmx, c1]) (fun j v hj => ?_) (by rw [hW]; exact hN) (by rw [← Array.length_toList, hRl]; omega) c4
                  rw [hadd, cell_heap hW, World.cell?, hlow _ hxlt]
                  exact hcsrc j v hj
                · rw [hR2]
                  have hb1 : W0.heap[w.heap.size]? = some (.cells R1.toArray e (0, 0)) := by rw [hW]; exact setRow_heap _ _ _ _ _ _ hN
                  have := run_copy_row (P := P) (ty := ty) (dCap := dc) (sCap := sc) hS hi hsz (W := W0) (b := w.heap.size) (o := (i + xs.length) * t2.size) (a := ⟨blk, off + i * t2.size, none⟩) (sLen := l.length - i) (dLen := l.length + xs.length - (i + xs.length)) (cs := os.drop (i * t2.size)) (by rw [hmg, hdl]) (fun j v hj => by
                    rw [hadd, cell_heap hW, cell_setRow_other _ _ _ _ (by show blk ≠ w.heap.size; omega), World.cell?, hlow _ hblt, Nat.add_assoc]
                    rw [List.getElem?_drop] at hj
                    exact hosrc _ v hj) hb1 (by rw [← Array.length_toList, List.toList_toArray, hR1l]; omega) hod
                  simpa using this
                · rintro _ w'' ⟨rfl, hheap, hos, htape, hout'⟩
                  have hheap2 : w''.heap = (w.drew.alloc (.cells R2.toArray e)).heap := by
                    rw [hheap, setRow_twice, hw1]; exact setRow_alloc w.drew _ _ _
                  obtain ⟨g', q2, q3, q4⟩ := new_arr (t := t2) false (l := l.take i ++ (xs ++ l.drop i)) (cells := R2.toArray) (el := e) (cap := G) (w1 := w.drew) hu (HR_kill (id := id) hH) hB (News.drew w) (by simp; omega) (by rw [← Array.length_toList, List.toList_toArray, hR2l]; exact Nat.le_refl _) (fun j x hx => by
                    obtain ⟨us, ha, hu⟩ := ((hfl.take hil).append hxd).2 j x hx
                    refine ⟨us, ha, fun q u hq => ?_⟩
                    have h1 := hu q u hq
                    rw [← Array.getElem?_toList, List.toList_toArray, hR2e, List.getElem?_append_left (idx_lt h1)]
                    exact h1)
                  have hnw := news_of_heap (w := w.drew.alloc (.cells R2.toArray e)) (w' := w'') hheap2 (by rw [hos, hw1]; rfl) (by rw [htape, hw1]; rfl) (by rw [hout', hw1]; rfl)
                  have hB2 : Bs B (w.drew.alloc (.cells R2.toArray e)) := hB.mono ((News.drew w).trans (News.alloc w.drew _)).size
                  refine ⟨_, F, g', rfl, ?_, q2.trans (hnw.gr q3 hB2), hnw.HR q3 hB2⟩
                  rw [List.length_set] at q4
                  have := VR0_gr (hnw.gr q3 hB2) q4
                  rw [show (l.take i ++ (xs ++ l.drop i)).length = l.length + xs.length by simp; omega] at this ⊢
                  exact this
              · -- there is room
                obtain ⟨w', g', hst, q2, q3, q4⟩ := append_in (P := P) (off := 0) (n0 := i) (xs := xs ++ l.drop i) (cs := cs ++ os.drop (i * t2.size)) hH hb he (by omega) (fun h => by cases h) (by simp only; omega) (by simp only [List.length_append, List.length_drop]; omega) hxd.1 (fun i x _ hx => hxd.2 i x hx) (fun v hv => (List.mem_append.1 hv).elim (c4 v) (hod v))
                simp only [List.drop_zero, Nat.zero_mul, Nat.add_zero, Nat.sub_zero] at hst q3 q4
                have hfitc : off + l.length * t2.size + xs.length * t2.size ≤ cur.size := by
                  have a : (l.length + xs.length) * t2.size ≤ cap * t2.size := Nat.mul_le_mul_right _ hin
                  rw [Nat.add_mul] at a
                  omega
                have hrun := run_storeCells_at (P := P) blk (off + i * t2.size) el (cs ++ os.drop (i * t2.size)) 0 cur w k7 (by simp only [List.length_append, hdl]; omega) (fun v hv => (List.mem_append.1 hv).elim (c4 v) (hod v))
                simp only [Nat.add_zero] at hrun
                rw [hst] at hrun
                cases hrun
                obtain ⟨R1, hR1⟩ : ∃ R1, R1 = cur.toList.take (off + (i + xs.length) * t2.size) ++ os.drop (i * t2.size) ++ cur.toList.drop (off + (i + xs.length) * t2.size + (os.drop (i * t2.size)).length) := ⟨_, rfl⟩
                obtain ⟨R2, hR2⟩ : ∃ R2, R2 = cur.toList.take (off + i * t2.size) ++ (cs ++ os.drop (i * t2.size)) ++ cur.toList.drop (off + i * t2.size + (cs ++ os.drop (i * t2.size)).length) := ⟨_, rfl⟩
                rw [← hR2] at q2 q3 q4
                have hR1l : R1.length = cur.size := by
                  rw [hR1]; simp only [List.length_append, List.length_take, List.length_drop]; omega
                have hR12 : R1.take (off + i * t2.size) ++ cs ++ R1.drop (off + i * t2.size + cs.length) = R2 := by
                  have e1 : R1.take (off + i * t2.size) = cur.toList.take (off + i * t2.size) := by
                    rw [hR1, take_app (by simp only [List.length_append, List.length_take]; omega), take_app (by simp only [List.length_take]; omega), List.take_take, Nat.min_eq_left (by omega)]
                  have e2 : R1.drop (off + i * t2.size + cs.length) = os.drop (i * t2.size) ++ cur.toList.drop (off + (i + xs.length) * t2.size + (os.drop (i * t2.size)).length) := by
                    rw [hR1, List.append_assoc, drop_app (by simp only [List.length_take]; omega)]
                  rw [e1, e2, hR2]
                  simp only [List.append_assoc, List.length_append]
                  congr 4
                  omega
                refine (W.w_shift blk off l.length cap i (some ⟨xb, xo, none⟩) xs.length cx w hlt hm hin hbig
                  (R1 := R1) (R2 := R2) (x := goInt (Nat.min (l.length + xs.length - i) (l.length + xs.length - (i + xs.length)))) (y := goInt (Nat.min xs.length (l.length + xs.length - i)))
                  (run_overlaps_own hS hi hov (a := ⟨xb, xo, none⟩) (b := ⟨blk, _, none⟩) hne hxh k7 hxc (by have : 0 < cap * t2.size := Nat.mul_pos hcap hpos; omega) _ _ _ _) (fun W0 ty dc sc hW => ?_) (fun W0 ty dc hW => ?_)).mono ?_
                · rw [hR1]
                  refine run_copy_row hS hi hsz (by rw [hmn, hdl]) (fun j v hj => ?_) (by rw [hW]; exact k7) (by omega) hod
                  rw [hadd, cell_heap hW, Nat.add_assoc]
                  rw [List.getElem?_drop] at hj
                  exact hosrc _ v hj
                · have hb1 : W0.heap[blk]? = some (.cells R1.toArray el (0, 0)) := by rw [hW]; exact setRow_heap _ _ _ _ _ _ k7
                  have := run_copy_row (P := P) (ty := ty) (dCap := dc) (sCap := cx) hS hi hsz (W := W0) (b := blk) (o := off + i * t2.size) (a := ⟨xb, xo, none⟩) (sLen := xs.length) (dLen := l.length + xs.length - i) (cs := cs) (by rw [hmx, c1]) (fun j v hj => by
                    rw [hadd, cell_heap hW, cell_setRow_other _ _ _ _ hne]
                    exact hcsrc j v hj) hb1 (by rw [← Array.length_toList, List.toList_toArray, hR1l]; omega) c4
                  rw [List.toList_toArray, hR12] at this
                  exact this
                · rintro _ w'' ⟨rfl, hheap, hos, htape, hout'⟩
                  have hheap2 : w''.heap = (w.setRow blk R2.toArray).heap := by rw [hheap, setRow_twice]
                  have hnw := news_of_heap (w := w.setRow blk R2.toArray) (w' := w'') hheap2 (by rw [hos]; rfl) (by rw [htape]; rfl) (by rw [hout']; rfl)
                  have hB2 : Bs B (w.setRow blk R2.toArray) := hB.mono q2.below.size
                  refine ⟨_, F, g', rfl, ?_, q2.trans (hnw.gr q3 hB2), hnw.HR q3 hB2⟩
                  have := VR0_gr (hnw.gr q3 hB2) q4
                  rw [show i + (xs ++ l.drop i).length = l.length + xs.length by simp; omega] at this
                  exact this
          · cases h
        · cases h
      · cases h
    · cases h
  · rename_i heq; cases heq
  · rename_i heq; cases heq
  · rename_i heq; cases heq
  · rename_i heq; cases heq
  · rename_i heq; cases heq
  · rename_i heq; cases heq
  · cases h
def infoChk (P : Program) (e : TypeId) (sz : Nat) : Bool := match P.info? e with
  | some i => match i.zero with
    | some z => i.size == sz && Nat.ble i.bytes 1024 && z.cells.size == sz
    | none => false
  | none => false
theorem infoChk_ok {e : TypeId} {sz : Nat} (h : infoChk P e sz = true) : ∃ i z, P.info? e = some i ∧ i.size = sz ∧ i.bytes ≤ 1024 ∧ i.zero = some z ∧ z.cells.size = sz := by
  unfold infoChk at h
  split at h
  · rename_i i hi
    split at h
    · rename_i z hz
      simp only [Bool.and_eq_true, beq_iff_eq] at h
      exact ⟨i, z, hi, h.1.1, Nat.le_of_ble_eq_true h.1.2, hz, h.2⟩
    · cases h
  · cases h
theorem insert_one {t : Ty} {f S ov e tR : Nat} (hu : t = .int .u8 → e = u8T) (W : InsWalk P f S ov t.size) (hS : P.underlying S = some (.slice e)) (h3 : P.underlying 3 = some (.int .i64)) (hi : infoChk P e t.size = true) (hpos : 0 < t.size)
    (hov : ∃ fn, P.funcs[ov]? = some fn ∧ fn.body.isNone = true ∧ (fn.name == "runtime.NumGoroutine") = false ∧ Extern.findNext fn = none ∧ Extern.find fn = some (Extern.SlicesOverlaps.overlaps #[S, S] #[tR]))
    (hf : ∃ fn, P.funcs[f]? = some fn ∧ fn.body.isSome = true ∧ (fn.name == "runtime.NumGoroutine") = false) : XtOne P E f (.insert t) := by
  obtain ⟨i, z, h1, h2, h4, h5, h6⟩ := infoChk_ok hi
  exact ⟨fun h => (by cases h), fun _ => ⟨hf, insert_ok hu W hS h3 h1 h2 hpos h4 h5 h6 hov⟩⟩
end
end Go.Proofs.YtmojilihllhadaaGreatDoor.Ev
/- slices.SortFunc, strings.Trim: the contracts, out of the shelf's. -/
namespace Go.Proofs.YtmojilihllhadaaGreatDoor.Ev
open Go Go.RowKit Go.Sort
set_option linter.unusedVariables false
set_option linter.unusedSimpArgs false
section
variable {α : Type} {P : Program} {E : Env} {B : Nat → Prop} {F : Fz} {g : List GE} {w : World} {H : Hp}
def sv : AV → Option Value
  | .int k x => some (.int k x)
  | .bool b => some (.bool b)
  | .str s => some (.string s)
  | _ => none
def svs : List AV → Option (List Value)
  | [] => some []
  | a :: l => match sv a, svs l with
    | some v, some vs => some (v :: vs)
    | _, _ => none
theorem sv_eq {a : AV} {v u : Value} (h : sv a = some v) (k : VR2 F w g a u) : u = v := by
  unfold sv at h
  split at h
  · cases h; exact k
  · cases h; exact k
  · cases h; exact k
  · cases h
theorem sv_ok {a : AV} {v : Value} (h : sv a = some v) : VR2 F w g a v := by
  unfold sv at h
  split at h
  · cases h; rfl
  · cases h; rfl
  · cases h; rfl
  · cases h
theorem svs_eq : ∀ {l : List AV} {vs us : List Value}, svs l = some vs → All2 (VR2 F w g) l us → us = vs
  | [], vs, us, h, k => by cases h; cases k; rfl
  | a :: l, vs, us, h, k => by
    simp only [svs] at h
    split at h
    · rename_i v ws h1 h2
      cases h
      cases k with
      | cons k1 k2 => rw [sv_eq h1 k1, svs_eq h2 k2]
    · cases h
theorem libK_nat {β : Type} {p : LibF} {args : List AV} {K : AV → Option α} {f : α → Option β} : (libK p args K).bind f = libK p args (fun v => (K v).bind f) := by
  unfold libK
  split
  · rw [cond_bindX, cond_bindX]
  · split
    · exact cond_bindX
    · split
      · exact cond_bindX
      · rfl
  · exact cond_bindX
  · rfl
theorem lib_one {p : LibF} {f : FuncId} (W : ∀ (args : List AV) (σ : AV) (B : Nat → Prop) (F : Fz) (w : World), libK p args some = some σ → GlobOk E B F w →
      ∃ vs v, svs args = some vs ∧ sv σ = some v ∧ Calls P f vs.toArray w fun e w' => e = .returned v ∧ Below w.heap.size w w')
    (hf : ∃ fn, P.funcs[f]? = some fn ∧ fn.body.isSome = true ∧ (fn.name == "runtime.NumGoroutine") = false) : XtOne P E f (.lib p) := by
  refine ⟨fun h => (by cases h), fun _ => ⟨hf, ?_⟩⟩
  intro args H σ H' B F g w vs h ha hH hB hG
  have h' : libK p args some = some σ ∧ H' = H := by
    have h : libK p args (fun v => some (v, H)) = some (σ, H') := h
    have this : (libK p args some).bind (fun v => some (v, H)) = some (σ, H') := by rw [libK_nat]; exact h
    obtain ⟨s, h1, h2⟩ := Option.bind_eq_some_iff.1 this
    cases h2
    exact ⟨h1, rfl⟩
  obtain ⟨h1, rfl⟩ := h'
  obtain ⟨vs', v, k1, k2, k3⟩ := W args σ B F w h1 hG
  have hvs : vs = vs'.toArray := Array.toList_inj.1 (by rw [svs_eq k1 ha])
  rw [hvs]
  refine k3.mono ?_
  rintro _ w' ⟨rfl, hbel⟩
  have hn : News w w' := ⟨hbel.os, hbel.tape, hbel.output, hbel.size, hbel.block⟩
  exact ⟨_, F, g, rfl, sv_ok k2, hn.gr hH hB, hn.HR hH hB⟩
theorem trim_one {f : FuncId} (W : ∀ (s c : ByteArray) (w : World), s.size ≤ 9223372036854775807 → c.size < 4294967281 → (∀ (j : Nat) b, c.data.toList[j]? = some b → b.toNat < 128) →
      Calls P f #[.string s, .string c] w fun e w' => e = .returned (.string (trimB s c)) ∧ Below w.heap.size w w')
    (hf : ∃ fn, P.funcs[f]? = some fn ∧ fn.body.isSome = true ∧ (fn.name == "runtime.NumGoroutine") = false) : XtOne P E f (.lib .trim) :=
  lib_one (fun args σ B F w h hG => by
    unfold libK at h
    split at h
    · rename_i s c _
      obtain ⟨hc1, h⟩ := cond_some h
      obtain ⟨hc2, h⟩ := cond_some h
      cases h
      have hc1 := of_decide_eq_true hc1
      unfold asciiB at hc2
      rw [Bool.and_eq_true] at hc2
      obtain ⟨hc2, hc3⟩ := hc2
      have hc3 : c.size < 4294967281 := by simpa [Nat.blt_eq] using hc3
      exact ⟨_, _, rfl, rfl, W s c w (by omega) hc3 (fun j b hb => of_decide_eq_true (List.all_eq_true.1 hc2 b (List.mem_of_getElem? hb)))⟩
    · rename_i heq; cases heq
    · rename_i heq; cases heq
    · cases h) hf
theorem rep_one {f : FuncId} (W : ∀ (s : ByteArray) (c : Nat) (w : World), c ≤ 9223372036854775807 → s.size * c ≤ 140737488355328 →
      Calls P f #[.string s, .int .i64 c] w fun e w' => e = .returned (.string (repB s c)) ∧ Below w.heap.size w w')
    (hf : ∃ fn, P.funcs[f]? = some fn ∧ fn.body.isSome = true ∧ (fn.name == "runtime.NumGoroutine") = false) : XtOne P E f (.lib .rep) :=
  lib_one (fun args σ B F w h hG => by
    unfold libK at h
    split at h
    · rename_i heq; cases heq
    · rename_i heq; cases heq
    · rename_i s c _
      obtain ⟨hc1, h⟩ := cond_some h
      cases h
      obtain ⟨h0, h1, h2⟩ := of_decide_eq_true hc1
      obtain ⟨c, rfl⟩ := Int.eq_ofNat_of_zero_le h0
      have hm : s.size * c ≤ 65536 * 65536 := Nat.mul_le_mul (by omega) (by omega)
      exact ⟨_, _, rfl, rfl, W s c w (by omega) (by omega)⟩
    · cases h) hf
theorem fmtInt_one {f : FuncId} (W10 : ∀ (n : Int) (B : Nat → Prop) (F : Fz) (w : World), GlobOk E B F w → -9223372036854775808 ≤ n → n ≤ 9223372036854775807 →
      Calls P f #[.int .i64 n, .int .i64 10] w fun e w' => e = .returned (.string (decB n)) ∧ Below w.heap.size w w')
    (W16 : ∀ (n : Int) (B : Nat → Prop) (F : Fz) (w : World), GlobOk E B F w → 0 ≤ n → n < 65536 → Calls P f #[.int .i64 n, .int .i64 16] w fun e w' => e = .returned (.string (hexB n)) ∧ Below w.heap.size w w')
    (hf : ∃ fn, P.funcs[f]? = some fn ∧ fn.body.isSome = true ∧ (fn.name == "runtime.NumGoroutine") = false) : XtOne P E f (.lib .fmtInt) :=
  lib_one (fun args σ B F w h hG => by
    unfold libK at h
    split at h
    · rename_i heq; cases heq
    · rename_i n b _
      split at h
      · rename_i hb
        have hb := of_decide_eq_true hb
        subst hb
        obtain ⟨hc1, h⟩ := cond_some h
        cases h
        obtain ⟨h0, h1⟩ := of_decide_eq_true hc1
        exact ⟨_, _, rfl, rfl, W10 n B F w hG h0 h1⟩
      · split at h
        · rename_i hb
          have hb := of_decide_eq_true hb
          subst hb
          obtain ⟨hc1, h⟩ := cond_some h
          cases h
          obtain ⟨h0, h1⟩ := of_decide_eq_true hc1
          exact ⟨_, _, rfl, rfl, W16 n B F w hG h0 h1⟩
        · cases h
    · rename_i heq; cases heq
    · cases h) hf
end
/-! #### (*strings.Builder).copyCheck -/
structure ChkWalk (P : Program) (f T : TypeId) : Prop where
  fresh : ∀ (b : Nat) (w : World), w.cell? ⟨b, 0, none⟩ = some (.pointer none) → w.shape? b = some (T, 2) → w.frozen? ⟨b, 0, none⟩ = false →
    Calls P f #[.pointer (some ⟨b, 0, none⟩)] w fun e w' => e = .returned (.tuple #[]) ∧ w' = w.setCell ⟨b, 0, none⟩ (.pointer (some ⟨b, 0, none⟩))
  used : ∀ (b : Nat) (w : World), w.cell? ⟨b, 0, none⟩ = some (.pointer (some ⟨b, 0, none⟩)) → Calls P f #[.pointer (some ⟨b, 0, none⟩)] w fun e w' => e = .returned (.tuple #[]) ∧ w' = w
section
variable {P : Program} {E : Env}
theorem chk_ok {f T : TypeId} (W : ChkWalk P f T) : XtSem P E f (.chk T) := by
  intro args H σ H' B F g w vs h ha hH hB hG
  unfold extK at h
  split at h
  · rename_i heq; cases heq
  · rename_i heq; cases heq
  · rename_i heq; cases heq
  · rename_i heq; cases heq
  · rename_i heq; cases heq
  · rename_i heq; cases heq
  · rename_i T0 p heq
    cases heq
    unfold chkK at h
    split at h
    · rename_i id
      split at h
      · rename_i T' c0 c1 hb
        split at h
        · rename_i hchk
          simp only [Bool.and_eq_true] at hchk
          have hT := Nat.eq_of_beq_eq_true hchk.1
          subst hT
          cases h
          obtain ⟨u, hvs, hp⟩ : ∃ u, vs = #[u] ∧ VR2 F w g (.ptr id 0) u := by
            cases hv : vs.toList with
            | nil => rw [hv] at ha; cases ha
            | cons u0 v1 =>
              rw [hv] at ha
              cases ha with
              | cons h1 ha =>
                cases ha
                exact ⟨_, Array.toList_inj.1 (by rw [hv]), h1⟩
          subst hvs
          obtain ⟨e, he, rfl⟩ := hp
          obtain ⟨k1, k2, us, k3, k4⟩ := hH.blk id _ e hb he
          obtain ⟨u0, u1, hus, hu0, hu1⟩ : ∃ u0 u1, us = #[u0, u1] ∧ VR0 F w g c0 u0 ∧ VR0 F w g c1 u1 := by
            cases hv : us.toList with
            | nil => rw [hv] at k4; cases k4
            | cons u0 v1 =>
              rw [hv] at k4
              cases k4 with
              | cons h1 k4 =>
                cases k4 with
                | cons h2 k4 =>
                  cases k4
                  exact ⟨_, _, Array.toList_inj.1 (by rw [hv]), h1, h2⟩
          subst hus
          have hc0 : w.cell? ⟨e.ad.block, 0, none⟩ = some u0 := by simp [World.cell?, k3]
          have hval : u0 = .pointer none ∨ u0 = .pointer (some ⟨e.ad.block, 0, none⟩) := by
            have hs := hchk.2
            unfold selfOrNil at hs
            split at hs
            · exact .inl hu0
            · rename_i i
              have := Nat.eq_of_beq_eq_true hs
              subst this
              obtain ⟨e', q1, q2⟩ := hu0
              rw [he] at q1
              cases q1
              exact q2
            · cases hs
          rcases hval with rfl | rfl
          · refine (W.fresh e.ad.block w hc0 (by simp [World.shape?, k3]) (by simp [World.frozen?, k3])).mono ?_
            rintro _ _ ⟨rfl, rfl⟩
            have hset := HR_set (w' := w.setCell ⟨e.ad.block, 0, none⟩ (.pointer (some ⟨e.ad.block, 0, none⟩))) (b' := .var T' [.slf id, c1]) hH hb he trivial (.inl ⟨_, _, rfl⟩) rfl rfl rfl (by simp [World.setCell])
              (fun k hk => by simp only [World.setCell, Array.getElem?_modify]; rw [if_neg (Ne.symm hk)])
              (fun hg => ⟨k1, k2, #[.pointer (some ⟨e.ad.block, 0, none⟩), u1], by
                simp only [World.setCell, Array.getElem?_modify, if_true, k3]
                simp, .cons ⟨e, he, .inr rfl⟩ (.cons (VR0_gr hg hu1) .nil)⟩) (by intro _ _ h; cases h)
            exact ⟨_, F, g, rfl, ⟨_, rfl, .nil⟩, hset.1, hset.2⟩
          · refine (W.used e.ad.block w hc0).mono ?_
            rintro _ w1 ⟨rfl, hw1⟩
            rw [hw1]
            have hset := HR_set (w' := w) (b' := .var T' [.slf id, c1]) hH hb he trivial (.inl ⟨_, _, rfl⟩) rfl rfl rfl rfl (fun k hk => rfl)
              (fun hg => ⟨k1, k2, #[.pointer (some ⟨e.ad.block, 0, none⟩), u1], k3, .cons ⟨e, he, .inr rfl⟩ (.cons hu1 .nil)⟩) (by intro _ _ h; cases h)
            exact ⟨_, F, g, rfl, ⟨_, rfl, .nil⟩, hset.1, hset.2⟩
        · cases h
      · cases h
    · cases h
  · rename_i heq; cases heq
  · rename_i heq; cases heq
  · rename_i heq; cases heq
  · cases h
theorem chk_one {f T : TypeId} (W : ChkWalk P f T) (hf : ∃ fn, P.funcs[f]? = some fn ∧ fn.body.isSome = true ∧ (fn.name == "runtime.NumGoroutine") = false) : XtOne P E f (.chk T) :=
  ⟨fun h => (by cases h), fun _ => ⟨hf, chk_ok W⟩⟩
end
/-! #### strings.Join -/
structure JoinWalk (P : Program) (f : FuncId) : Prop where
  nil : ∀ (a : Option Addr) (c : Nat) (sep : ByteArray) (w : World), Calls P f #[.slice a 0 c, .string sep] w fun e w' => e = .returned (.string ⟨#[]⟩) ∧ w' = w
  row : ∀ (bk o c : Nat) (xs : List ByteArray) (sep : ByteArray) (w : World), (∀ (j : Nat) x, xs[j]? = some x → w.cell? ⟨bk, o + j, none⟩ = some (.string x)) → bk < w.heap.size → xs.length ≤ 140737488355328 → xs.length ≤ c →
    (Go.Lib.join (xs.map (·.data.toList)) sep.data.toList).length ≤ 140737488355328 →
    Calls P f #[.slice (some ⟨bk, o, none⟩) xs.length c, .string sep] w fun e w' => e = .returned (.string (joinB xs sep)) ∧ Below w.heap.size w w'
section
variable {P : Program} {E : Env}
theorem join_ok {f : FuncId} (W : JoinWalk P f) : XtSem P E f .join := by
  intro args H σ H' B F g w vs h ha hH hB hG
  unfold extK at h
  split at h
  · rename_i heq; cases heq
  · rename_i heq; cases heq
  · rename_i heq; cases heq
  · rename_i heq; cases heq
  · rename_i heq; cases heq
  · rename_i heq; cases heq
  · rename_i heq; cases heq
  · rename_i t l s heq
    split at h
    · rename_i xs hxs
      obtain ⟨rfl, hl⟩ := castL_some hxs
      have hl : xs = l := hl
      subst hl
      obtain ⟨hc, hK⟩ := cond_some h
      obtain ⟨hc1, hc2⟩ := of_decide_eq_true hc
      cases hK
      obtain ⟨u0, u1, hvs, hs, hf⟩ : ∃ u0 u1, vs = #[u0, u1] ∧ VR2 F w g (.sl .str xs) u0 ∧ VR2 F w g (.str s) u1 := by
        cases hv : vs.toList with
        | nil => rw [hv] at ha; cases ha
        | cons u0 v1 =>
          rw [hv] at ha
          cases ha with
          | cons h1 ha =>
            cases ha with
            | cons h2 ha =>
              cases ha
              exact ⟨_, _, Array.toList_inj.1 (by rw [hv]), h1, h2⟩
      subst hvs
      have hf : u1 = .string s := hf
      subst hf
      have hs : CR F w (.sl .str) xs [u0] := hs
      simp only [CR] at hs
      obtain ⟨A, c, hu, hlc, hr⟩ := hs
      cases hu
      have hsz : (joinB xs s).size = (Go.Lib.join (xs.map (·.data.toList)) s.data.toList).length := by
        rw [Go.Lib.size_eq]; rfl
      cases hxs0 : xs with
      | nil =>
        subst hxs0
        refine (W.nil A c s w).mono ?_
        rintro _ w1 ⟨rfl, hw1⟩
        rw [hw1]
        exact ⟨_, F, g, rfl, rfl, Gr.refl .., hH⟩
      | cons x0 r0 =>
        obtain ⟨ad, hA, hsp, us, hus, _, hj⟩ := hr 0 x0 (by rw [hxs0]; rfl)
        subst hA
        have had : (⟨ad.block, ad.off, none⟩ : Addr) = ad := by
          cases hh : ad with
          | mk bb oo ss => rw [hh] at hsp; simp only at hsp; subst hsp; rfl
        have hcells : ∀ (j : Nat) x, xs[j]? = some x → w.cell? ⟨ad.block, ad.off + j, none⟩ = some (.string x) := by
          intro j x hx
          obtain ⟨ad', hA', hsp', us', hus', _, hj'⟩ := hr j x hx
          cases hA'
          have hus' : us' = [.string x] := hus'
          subst hus'
          have := (hj' 0 _ rfl).2
          simpa [Ty.size] using this
        have hus : us = [.string x0] := hus
        subst hus
        have hlt := (hH.frz _ _ (hj 0 _ rfl).1).1
        have := W.row ad.block ad.off c xs s w hcells hlt hc1 hlc (by rw [← hsz]; exact hc2)
        rw [had, hxs0] at this
        refine this.mono ?_
        rintro _ w' ⟨rfl, hbel⟩
        have hn : News w w' := ⟨hbel.os, hbel.tape, hbel.output, hbel.size, hbel.block⟩
        exact ⟨_, F, g, rfl, rfl, hn.gr hH hB, hn.HR hH hB⟩
    · cases h
  · rename_i heq; cases heq
  · rename_i heq; cases heq
  · cases h
theorem join_one {f : FuncId} (W : JoinWalk P f) (hf : ∃ fn, P.funcs[f]? = some fn ∧ fn.body.isSome = true ∧ (fn.name == "runtime.NumGoroutine") = false) : XtOne P E f .join :=
  ⟨fun h => (by cases h), fun _ => ⟨hf, join_ok W⟩⟩
/-! #### the table of common lines -/
structure TabWalk (P : Program) (f : FuncId) : Prop where
  row : ∀ (A1 A2 : Option Addr) (b1 o1 b2 o2 c1 c2 : Nat) (xs ys : List ByteArray) (w : World), (0 < xs.length → A1 = some ⟨b1, o1, none⟩) → (0 < ys.length → A2 = some ⟨b2, o2, none⟩) → xs.length ≤ 50000 → ys.length ≤ 50000 →
    (∀ (r : Nat) x, xs[r]? = some x → w.cell? ⟨b1, o1 + r, none⟩ = some (.string x)) → (∀ (r : Nat) y, ys[r]? = some y → w.cell? ⟨b2, o2 + r, none⟩ = some (.string y)) →
    Calls P f #[.slice A1 xs.length c1, .slice A2 ys.length c2] w fun e w' => ∃ (g cap : Nat) (R : Nat → Nat), e = .returned (.slice (some ⟨g, 0, none⟩) (xs.length + 1 : Nat) cap) ∧ xs.length + 1 ≤ cap ∧ News w w' ∧ w.heap.size ≤ g ∧
      ∀ i, i ≤ xs.length → w'.cell? ⟨g, i, none⟩ = some (.slice (some ⟨R i, 0, none⟩) (ys.length + 1) (ys.length + 1)) ∧ w.heap.size ≤ R i ∧
        ∀ j, j ≤ ys.length → w'.cell? ⟨R i, j, none⟩ = some (.int .i64 ((lcsN (xs.drop i) (ys.drop j) : Nat) : Int))
theorem rows_cells {F : Fz} {w : World} {A : Option Addr} {xs : List ByteArray} (h : Rows' F w (Ty.size .str) (fun x us => CR F w .str x us) A xs) :
    ∃ b o, (0 < xs.length → A = some ⟨b, o, none⟩) ∧ ∀ (r : Nat) x, xs[r]? = some x → w.cell? ⟨b, o + r, none⟩ = some (.string x) := by
  cases xs with
  | nil => exact ⟨0, 0, fun h => absurd h (Nat.lt_irrefl _), fun r x hx => by simp at hx⟩
  | cons x0 r0 =>
    obtain ⟨ad, hA, hsp, us, hus, _, hj⟩ := h 0 x0 rfl
    have had : (⟨ad.block, ad.off, none⟩ : Addr) = ad := by
      cases hh : ad with
      | mk bb oo ss => rw [hh] at hsp; simp only at hsp; subst hsp; rfl
    refine ⟨ad.block, ad.off, fun _ => by rw [had]; exact hA, fun r x hx => ?_⟩
    obtain ⟨ad', hA', hsp', us', hus', _, hj'⟩ := h r x hx
    rw [hA] at hA'
    cases hA'
    have hus' : us' = [.string x] := hus'
    subst hus'
    have := (hj' 0 _ rfl).2
    simpa [Ty.size] using this
theorem table_ok {f : FuncId} (W : TabWalk P f) : XtSem P E f .table := by
  intro args H σ H' B F g w vs h ha hH hB hG
  unfold extK at h
  split at h
  · rename_i heq; cases heq
  · rename_i heq; cases heq
  · rename_i heq; cases heq
  · rename_i heq; cases heq
  · rename_i heq; cases heq
  · rename_i heq; cases heq
  · rename_i heq; cases heq
  · rename_i heq; cases heq
  · rename_i t l t' l' heq
    split at h
    · rename_i xs ys hxs hys
      obtain ⟨rfl, hl⟩ := castL_some hxs
      have hl : xs = l := hl
      subst hl
      obtain ⟨rfl, hl⟩ := castL_some hys
      have hl : ys = l' := hl
      subst hl
      obtain ⟨hc, hK⟩ := cond_some h
      obtain ⟨hc1, hc2⟩ := of_decide_eq_true hc
      cases hK
      obtain ⟨u0, u1, hvs, hs, hf⟩ : ∃ u0 u1, vs = #[u0, u1] ∧ VR2 F w g (.sl .str xs) u0 ∧ VR2 F w g (.sl .str ys) u1 := by
        cases hv : vs.toList with
        | nil => rw [hv] at ha; cases ha
        | cons u0 v1 =>
          rw [hv] at ha
          cases ha with
          | cons h1 ha =>
            cases ha with
            | cons h2 ha =>
              cases ha
              exact ⟨_, _, Array.toList_inj.1 (by rw [hv]), h1, h2⟩
      subst hvs
      have hs : CR F w (.sl .str) xs [u0] := hs
      have hf : CR F w (.sl .str) ys [u1] := hf
      simp only [CR] at hs hf
      obtain ⟨A1, c1, hu1, _, hr1⟩ := hs
      obtain ⟨A2, c2, hu2, _, hr2⟩ := hf
      cases hu1
      cases hu2
      obtain ⟨b1, o1, hA1, hcell1⟩ := rows_cells hr1
      obtain ⟨b2, o2, hA2, hcell2⟩ := rows_cells hr2
      refine (W.row A1 A2 b1 o1 b2 o2 c1 c2 xs ys w hA1 hA2 hc1 hc2 hcell1 hcell2).mono ?_
      rintro _ w' ⟨go, cap, R, rfl, hcap, hn, hgo, hrow⟩
      have h0 := hn.gr hH hB
      have hgr : Gr B F g w (fun b o => F b o ∨ (w.heap.size ≤ b ∧ b < w'.heap.size)) g w' :=
        ⟨fun b o h => .inl h, fun b o h => h.elim .inl fun h => .inr fun hb => by have := hB b hb; omega, h0.cell, fun _ _ h => h, h0.below⟩
      refine ⟨_, _, g, rfl, ?_, hgr, ?_⟩
      · show CR _ w' (.sl (.sl (.int .i64))) (tabL xs ys) [_]
        simp only [CR]
        have hlen : (tabL xs ys).length = xs.length + 1 := by simp [tabL]
        refine ⟨some ⟨go, 0, none⟩, cap, by rw [hlen], by rw [hlen]; exact hcap, fun i x hx => ⟨⟨go, 0, none⟩, rfl, rfl, ?_⟩⟩
        have hi : i < xs.length + 1 := by rw [← hlen]; exact (List.getElem?_eq_some_iff.1 hx).1
        obtain ⟨q1, q2, q3⟩ := hrow i (by omega)
        have hxe : x = (List.range (ys.length + 1)).map fun j => ((lcsN (xs.drop i) (ys.drop j) : Nat) : Int) := by
          unfold tabL at hx
          rw [List.getElem?_map, List.getElem?_range hi] at hx
          exact (Option.some.inj hx).symm
        have hxl : x.length = ys.length + 1 := by rw [hxe]; simp
        refine ⟨[.slice (some ⟨R i, 0, none⟩) (ys.length + 1) (ys.length + 1)], ⟨some ⟨R i, 0, none⟩, ys.length + 1, by rw [hxl], by rw [hxl]; exact Nat.le_refl _, fun j y hy => ⟨⟨R i, 0, none⟩, rfl, rfl, ?_⟩⟩, rfl, ?_⟩
        · have hj : j < ys.length + 1 := by rw [← hxl]; exact (List.getElem?_eq_some_iff.1 hy).1
          have hye : y = ((lcsN (xs.drop i) (ys.drop j) : Nat) : Int) := by
            rw [hxe, List.getElem?_map, List.getElem?_range hj] at hy
            exact (Option.some.inj hy).symm
          have hcj := q3 j (by omega)
          refine ⟨[.int .i64 y], rfl, rfl, fun k u hk => ?_⟩
          cases k with
          | zero =>
            cases hk
            have hz : (0 + (j * Ty.size (.int .i64) + 0)) = j := by simp [Ty.size]
            rw [hz, hye]
            have hbl : R i < w'.heap.size := World.block_lt_of_cell? _ ⟨R i, j, none⟩ hcj
            exact ⟨.inr ⟨q2, hbl⟩, hcj⟩
          | succ k => simp at hk
        · intro k u hk
          cases k with
          | zero =>
            cases hk
            have hz : (0 + (i * Ty.size (.sl (.int .i64)) + 0)) = i := by simp [Ty.size]
            rw [hz]
            have hbl : go < w'.heap.size := World.block_lt_of_cell? _ ⟨go, i, none⟩ q1
            exact ⟨.inr ⟨hgo, hbl⟩, q1⟩
          | succ k => simp at hk
      · have hs := hn.size
        refine ⟨hH.len, fun i b e hb he => BR_gr hgr (fun hr => hn.old _ (hH.own i b e hb he hr).2) (hH.blk i b e hb he), fun i b e hb he hr => ?_, hH.sep, fun k o hk => ?_⟩
        · have := hH.own i b e hb he hr; exact ⟨this.1, by omega⟩
        · rcases hk with hk | ⟨hk1, hk2⟩
          · obtain ⟨h1, h2⟩ := hH.frz k o hk; exact ⟨by omega, h2⟩
          · exact ⟨hk2, fun i b e hb he hr hek => by have := (hH.own i b e hb he hr).2; omega⟩
    · cases h
  · rename_i heq; cases heq
  · cases h
theorem table_one {f : FuncId} (W : TabWalk P f) (hf : ∃ fn, P.funcs[f]? = some fn ∧ fn.body.isSome = true ∧ (fn.name == "runtime.NumGoroutine") = false) : XtOne P E f .table :=
  ⟨fun h => (by cases h), fun _ => ⟨hf, table_ok W⟩⟩
theorem lcs_all : ∀ (n : Nat) (xs ys : List ByteArray), xs.length + ys.length ≤ n → ∀ x y, lcsN xs ys ≤ lcsN (x :: xs) ys ∧ lcsN xs ys ≤ lcsN xs (y :: ys) ∧ lcsN (x :: xs) ys ≤ lcsN xs ys + 1 ∧ lcsN xs (y :: ys) ≤ lcsN xs ys + 1
  | 0, xs, ys, h, x, y => by
    have h1 : xs = [] := List.length_eq_zero_iff.1 (by omega)
    have h2 : ys = [] := List.length_eq_zero_iff.1 (by omega)
    subst h1 h2
    simp [lcsN]
  | n + 1, xs, ys, h, x, y => by
    have E1 : ∀ (x : ByteArray) xs, lcsN (x :: xs) [] = 0 := fun x xs => by simp [lcsN]
    have E0 : ∀ ys, lcsN [] ys = 0 := fun ys => by simp [lcsN]
    have E2 : ∀ (x y : ByteArray) xs ys, lcsN (x :: xs) (y :: ys) = if x = y then lcsN xs ys + 1 else max (lcsN xs (y :: ys)) (lcsN (x :: xs) ys) := fun x y xs ys => by rw [lcsN]
    refine ⟨?_, ?_, ?_, ?_⟩
    · cases ys with
      | nil => cases xs <;> simp [lcsN]
      | cons b r =>
        rw [E2]
        have := lcs_all n xs r (by simp at h; omega) x b
        split <;> omega
    · cases xs with
      | nil => simp [lcsN]
      | cons a r =>
        rw [E2]
        have := lcs_all n r ys (by simp at h; omega) a y
        split <;> omega
    · cases ys with
      | nil => rw [E1]; omega
      | cons b r =>
        rw [E2]
        have := lcs_all n xs r (by simp at h; omega) x b
        split <;> omega
    · cases xs with
      | nil => rw [E0]; omega
      | cons a r =>
        rw [E2]
        have := lcs_all n r ys (by simp at h; omega) a y
        split <;> omega
theorem lcs_le : ∀ (xs ys : List ByteArray), lcsN xs ys ≤ xs.length
  | [], ys => by simp [lcsN]
  | x :: xs, ys => by
    have h1 := (lcs_all _ xs ys (Nat.le_refl _) x x).2.2.1
    have h2 := lcs_le xs ys
    simp only [List.length_cons]
    omega
theorem lcs_step (xs ys : List ByteArray) {i j : Nat} (hi : i < xs.length) (hj : j < ys.length) :
    (((lcsN (xs.drop i) (ys.drop j) : Nat) : Int) = if xs[i] = ys[j] then ((lcsN (xs.drop (i + 1)) (ys.drop (j + 1)) : Nat) : Int) + 1 else max ((lcsN (xs.drop (i + 1)) (ys.drop j) : Nat) : Int) ((lcsN (xs.drop i) (ys.drop (j + 1)) : Nat) : Int)) ∧
    ((lcsN (xs.drop (i + 1)) (ys.drop j) : Nat) : Int) ≤ ((lcsN (xs.drop (i + 1)) (ys.drop (j + 1)) : Nat) : Int) + 1 ∧ ((lcsN (xs.drop i) (ys.drop (j + 1)) : Nat) : Int) ≤ ((lcsN (xs.drop (i + 1)) (ys.drop (j + 1)) : Nat) : Int) + 1 := by
  rw [List.drop_eq_getElem_cons hi, List.drop_eq_getElem_cons hj]
  have h := lcs_all _ (xs.drop (i + 1)) (ys.drop (j + 1)) (Nat.le_refl _) xs[i] ys[j]
  refine ⟨?_, by omega, by omega⟩
  rw [lcsN]
  split <;> omega
end
end Go.Proofs.YtmojilihllhadaaGreatDoor.Ev
