/- What a call hands back: results that are the caller's own from then on. -/
import Derived.Test.YtjklgmflillagaaDoorEv21
namespace Go.Proofs.YtjklgmflillagaaDoor.Ev
open Go Go.RowKit
set_option linter.unusedVariables false
set_option linter.unusedSimpArgs false

section
variable {P : Program} {E : Env} {B : Nat → Prop} {F : Fz} {g : List GE} {w : World} {H : Hp}

/-- where the blocks come from -/
inductive SrcL (F : Fz) (w : World) (g : List GE) (H : Hp) : List Nat → List GE → Hp → Prop where
  | nil : SrcL F w g H [] [] []
  | emp {e : GE} {t : Ty} {ids gs bs} : e.cap = 0 → BR F w [] e (.arr t [] false) → SrcL F w g H ids gs bs → SrcL F w g H ids (e :: gs) (.arr t [] false :: bs)
  | id {e e0 : GE} {t : Ty} {l : List t.den} {t0 : Ty} {l0 : List t0.den} {s0 : Bool} {i : Nat} {ids gs bs} : g[i]? = some e0 → H[i]? = some (.arr t0 l0 s0) → (0 < e.cap → 0 < e0.cap ∧ e.ad.block = e0.ad.block) →
      BR F w [] e (.arr t l false) → SrcL F w g H ids gs bs → SrcL F w g H (i :: ids) (e :: gs) (.arr t l false :: bs)
theorem SrcL.append {ids ids' gs gs' bs bs'} (h : SrcL F w g H ids gs bs) (k : SrcL F w g H ids' gs' bs') : SrcL F w g H (ids ++ ids') (gs ++ gs') (bs ++ bs') := by
  induction h with
  | nil => exact k
  | emp h1 h2 _ ih => exact .emp h1 h2 ih
  | id h1 h2 h3 h4 _ ih => exact .id h1 h2 h3 h4 ih
theorem SrcL.len {ids gs bs} (h : SrcL F w g H ids gs bs) : gs.length = bs.length := by
  induction h with
  | nil => rfl
  | emp _ _ _ ih => simp [ih]
  | id _ _ _ _ _ ih => simp [ih]
theorem SrcL.get {ids gs bs} (h : SrcL F w g H ids gs bs) : ∀ (j : Nat) (b : Blk) (e : GE), bs[j]? = some b → gs[j]? = some e →
    BR F w [] e b ∧ (∃ t l, b = .arr t l false) ∧ (0 < e.cap → ∃ i ∈ ids, ∃ e0 t0 l0 s0, g[i]? = some e0 ∧ H[i]? = some (.arr t0 l0 s0) ∧ 0 < e0.cap ∧ e.ad.block = e0.ad.block) := by
  induction h with
  | nil => intro j b e h; simp at h
  | emp h1 h2 _ ih =>
    intro j b e hb he
    cases j with
    | zero =>
      simp at hb he; subst hb; subst he
      exact ⟨h2, ⟨_, _, rfl⟩, fun h => by omega⟩
    | succ j => exact ih j b e (by simpa using hb) (by simpa using he)
  | id h1 h2 h3 h4 _ ih =>
    intro j b e hb he
    cases j with
    | zero =>
      simp at hb he; subst hb; subst he
      exact ⟨h4, ⟨_, _, rfl⟩, fun h => ⟨_, by simp, _, _, _, _, h1, h2, h3 h⟩⟩
    | succ j =>
      obtain ⟨k1, k2, k3⟩ := ih j b e (by simpa using hb) (by simpa using he)
      exact ⟨k1, k2, fun h => let ⟨i, hi, r⟩ := k3 h; ⟨i, by simp [hi], r⟩⟩
theorem SrcL.sep {ids gs bs} (hH : HR B F w g H) (h : SrcL F w g H ids gs bs) (hn : ids.Nodup) : ∀ (j k : Nat) (b c : Blk) (e f : GE), bs[j]? = some b → bs[k]? = some c → gs[j]? = some e → gs[k]? = some f → 0 < e.cap → 0 < f.cap → j ≠ k →
    e.ad.block ≠ f.ad.block := by
  induction h with
  | nil => intro j k b c e f h; simp at h
  | emp h1 h2 hs ih =>
    intro j k b c e f hb hc he hf hpe hpf hjk
    cases j with
    | zero => simp at he; subst he; omega
    | succ j =>
      cases k with
      | zero => simp at hf; subst hf; omega
      | succ k => exact ih hn j k b c e f (by simpa using hb) (by simpa using hc) (by simpa using he) (by simpa using hf) hpe hpf (by omega)
  | id h1 h2 h3 h4 hs ih =>
    rename_i ee ee0 tt ll tt0 ll0 ss0 i ids gs bs
    rw [List.nodup_cons] at hn
    have key : ∀ {e e' : GE} {k : Nat} {c : Blk}, (0 < e.cap → 0 < ee0.cap ∧ e.ad.block = ee0.ad.block) → bs[k]? = some c → gs[k]? = some e' → 0 < e.cap → 0 < e'.cap → e.ad.block ≠ e'.ad.block := by
      intro e e' k c h3 hc hf hpe hpf
      obtain ⟨_, _, k3⟩ := hs.get k c e' hc hf
      obtain ⟨i', hi', f0, t0, l0, s0, q1, q2, q3, q4⟩ := k3 hpf
      obtain ⟨p1, p2⟩ := h3 hpe
      rw [p2, q4]
      exact hH.sep i i' _ _ _ _ h2 q2 h1 q1 p1 q3 (fun e => hn.1 (e ▸ hi'))
    intro j k b c e f hb hc he hf hpe hpf hjk
    cases j with
    | zero =>
      cases k with
      | zero => exact absurd rfl hjk
      | succ k =>
        simp at he; subst he
        exact key h3 (by simpa using hc) (by simpa using hf) hpe hpf
    | succ j =>
      cases k with
      | zero =>
        simp at hf; subst hf
        exact (key h3 (by simpa using hb) (by simpa using he) hpf hpe).symm
      | succ k => exact ih hn.2 j k b c e f (by simpa using hb) (by simpa using hc) (by simpa using he) (by simpa using hf) hpe hpf (by omega)

theorem src_HR {ids gs bs} (hH : HR B F w g H) (h : SrcL F w g H ids gs bs) (hn : ids.Nodup) (hl : ∀ i ∈ ids, ∃ t l, H[i]? = some (.arr t l false)) : HR B F w gs bs := by
  refine ⟨h.len, fun i b e hb he => ?_, fun i b e hb he hr => ?_, fun i j b c e f hb hc he hf hr hs hij => ?_, fun k o hk => ⟨(hH.frz k o hk).1, fun i b e hb he hr hbk => ?_⟩⟩
  · obtain ⟨k1, ⟨t, l, rfl⟩, _⟩ := h.get i b e hb he
    exact k1
  · obtain ⟨_, ⟨t, l, rfl⟩, k3⟩ := h.get i b e hb he
    obtain ⟨i', _, e0, t0, l0, s0, q1, q2, q3, q4⟩ := k3 hr
    rw [q4]
    exact hH.own i' _ e0 q2 q1 q3
  · obtain ⟨_, ⟨t, l, rfl⟩, _⟩ := h.get i b e hb he
    obtain ⟨_, ⟨t, l, rfl⟩, _⟩ := h.get j c f hc hf
    exact h.sep hH hn i j _ _ e f hb hc he hf hr hs hij
  · obtain ⟨_, ⟨t, l, rfl⟩, k3⟩ := h.get i b e hb he
    obtain ⟨i', hi', e0, t0, l0, s0, q1, q2, q3, q4⟩ := k3 hr
    obtain ⟨t1, l1, r1, r2⟩ := (hH.frz k o hk).2 i' _ e0 q2 q1 q3 (by rw [← q4, hbk])
    obtain ⟨t2, l2, r3⟩ := hl i' hi'
    rw [q2] at r3
    cases r1
    cases r3

/-- a slice of the caller's own -/
theorem own_slice (hH : HR B F w g H) {t : Ty} {v : AV} {u : Value} {l : List t.den} (ha : asSl H t v = some l) (hv : VR0 F w g v u) (hn : ∀ t l, v ≠ .sl t l) :
    ∃ e, SrcL F w g H (ownIds [v]) [e] [.arr t l false] ∧ ∀ G1 G2, VR0 F w (G1 ++ e :: G2) (.all G1.length t.size l.length) u := by
  have hget : ∀ (G1 G2 : List GE) (e : GE), (G1 ++ e :: G2)[G1.length]? = some e := by intro G1 G2 e; simp
  cases v with
  | sl t' l' => exact absurd rfl (hn t' l')
  | emp =>
    obtain ⟨A, rfl⟩ := hv
    cases ha
    refine ⟨⟨⟨0, 0, none⟩, t.size, 0, 0⟩, .emp rfl ⟨rfl, rfl, Nat.le_refl _, rfl, fun h => absurd h (Nat.lt_irrefl _)⟩ .nil, fun G1 G2 => ⟨_, A, hget _ _ _, rfl, rfl, rfl, rfl, fun h => absurd h (Nat.lt_irrefl _), Nat.le_refl _⟩⟩
  | all id sz n =>
    obtain ⟨e, A, h1, h2, h3, h4, rfl, h6, h7⟩ := hv
    simp only [asSl] at ha
    split at ha
    · rename_i t' l' s hb
      have : t' = t := by unfold castL? at ha; split at ha <;> simp_all
      subst this
      rw [asSl_cast] at ha
      cases ha
      have hbr := hH.blk id _ e hb h1
      have hbr' : BR F w [] e (.arr t' l' false) := hbr
      obtain ⟨b1, b2, b3, b4, b5⟩ := hbr
      refine ⟨e, .id h1 hb (fun h => ⟨h, rfl⟩) hbr' .nil, fun G1 G2 => ⟨e, A, hget _ _ _, b2, b1, h4, ?_, h6, ?_⟩⟩
      · rw [← b2, h2]
      · rw [← b2, h2]; exact h7
    · cases ha
  | own id sz off n =>
    obtain ⟨e, A, h1, h2, h3, h4, rfl, h6⟩ := hv
    simp only [asSl] at ha
    split at ha
    · rename_i t' l' s hb
      have : t' = t := by unfold castL? at ha; split at ha <;> simp_all
      subst this
      rw [asSl_cast] at ha
      cases ha
      obtain ⟨b1, b2, b3, b4, b5⟩ := hH.blk id _ e hb h1
      have hlen : ((l'.drop off).take n).length = n := by simp; omega
      refine ⟨⟨⟨e.ad.block, e.ad.off + off * e.sz, none⟩, t'.size, e.cap - off, n⟩, .id h1 hb (fun h => ?_) ⟨rfl, hlen.symm, ?_, rfl, fun h => ?_⟩ .nil, fun G1 G2 => ⟨_, A, hget _ _ _, hlen.symm, rfl, rfl, by rw [hlen], fun h => h6 h, by rw [hlen]; show n ≤ e.cap - off; omega⟩⟩
      · have h : 0 < e.cap - off := h
        exact ⟨by omega, rfl⟩
      · rw [hlen]; show n ≤ e.cap - off; omega
      · have h : 0 < e.cap - off := h
        obtain ⟨vs, el, c1, c2, c3⟩ := b5 (by omega)
        refine ⟨vs, el, c1, ?_, fun i x hx => ?_⟩
        · show e.ad.off + off * e.sz + (e.cap - off) * t'.size ≤ vs.size
          rw [b1, Nat.add_assoc, ← Nat.add_mul, show off + (e.cap - off) = e.cap by omega]
          exact c2
        · have hx' : l'[off + i]? = some x := by
            rw [List.getElem?_take] at hx
            split at hx
            · rw [List.getElem?_drop] at hx; exact hx
            · cases hx
          obtain ⟨us, d1, d2⟩ := c3 (off + i) x hx'
          refine ⟨us, d1, fun j u hj => ?_⟩
          have := d2 j u hj
          show vs[e.ad.off + off * e.sz + (i * t'.size + j)]? = some u
          rw [b1, ← this, Nat.add_mul]
          congr 1
          omega
    · cases ha
  | _ => cases ha

theorem own_cells (hH : HR B F w g H) : (t : Ty) → (cs : List AV) → (x : t.den) → (r : List AV) → (us : List Value) → (b : Nat) → collapse H t cs = some (x, r) → All2 (VR0 F w g) cs us → (∀ v ∈ cs, ∀ t l, v ≠ .sl t l) →
    ∃ us1 us2 gs ids, us = us1 ++ us2 ∧ All2 (VR0 F w g) r us2 ∧ (∀ v ∈ r, v ∈ cs) ∧ ownIds cs = ids ++ ownIds r ∧ SrcL F w g H ids gs (ownCells t x b).2 ∧
      ∀ G1 G2, G1.length = b → All2 (VR0 F w (G1 ++ gs ++ G2)) (ownCells t x b).1 us1
  | .int k, cs, x, r, us, b, h, hv, hn => by
    cases hv with
    | nil => cases h
    | cons h1 h2 =>
      rename_i v u l m
      cases v with
      | int k' y =>
        simp only [collapse] at h
        split at h
        · rename_i hk; subst hk
          cases h
          exact ⟨[u], m, [], [], rfl, h2, fun v hv => by simp [hv], rfl, .nil, fun G1 G2 _ => .cons h1 .nil⟩
        · cases h
      | _ => cases h
  | .bool, cs, x, r, us, b, h, hv, hn => by
    cases hv with
    | nil => cases h
    | cons h1 h2 =>
      rename_i v u l m
      cases v with
      | bool y =>
        cases h
        exact ⟨[u], m, [], [], rfl, h2, fun v hv => by simp [hv], rfl, .nil, fun G1 G2 _ => .cons h1 .nil⟩
      | _ => cases h
  | .str, cs, x, r, us, b, h, hv, hn => by
    cases hv with
    | nil => cases h
    | cons h1 h2 =>
      rename_i v u l m
      cases v with
      | str y =>
        cases h
        exact ⟨[u], m, [], [], rfl, h2, fun v hv => by simp [hv], rfl, .nil, fun G1 G2 _ => .cons h1 .nil⟩
      | _ => cases h
  | .unit, cs, x, r, us, b, h, hv, hn => by
    have : cs = r := by cases cs <;> (cases h; rfl)
    subst this
    exact ⟨[], us, [], [], rfl, hv, fun v hv => hv, rfl, .nil, fun G1 G2 _ => .nil⟩
  | .sl t, cs, x, r, us, b, h, hv, hn => by
    cases hv with
    | nil => cases h
    | cons h1 h2 =>
      rename_i v u l m
      simp only [collapse] at h
      split at h
      · rename_i y hy
        cases h
        obtain ⟨e, k1, k2⟩ := own_slice hH hy h1 (hn v (by simp))
        exact ⟨[u], m, [e], ownIds [v], rfl, h2, fun v hv => by simp [hv], ownIds_cons v r, k1, fun G1 G2 hb => by
          subst hb
          simp only [List.append_assoc, List.singleton_append]
          exact .cons (k2 G1 G2) .nil⟩
      · cases h
  | .st t, cs, x, r, us, b, h, hv, hn => own_cells hH t cs x r us b (by simpa only [collapse] using h) hv hn
  | .pair s t, cs, x, r, us, b, h, hv, hn => by
    simp only [collapse] at h
    split at h
    · rename_i y r1 h1
      split at h
      · rename_i z r2 h2
        cases h
        obtain ⟨us1, us2, gs, ids, rfl, k1, k2, k3, k4, k5⟩ := own_cells hH s cs y r1 us b h1 hv hn
        obtain ⟨us3, us4, gs', ids', rfl, q1, q2, q3, q4, q5⟩ := own_cells hH t r1 z _ us2 (b + (ownCells s y b).2.length) h2 k1 fun v hv => hn v (k2 v hv)
        refine ⟨us1 ++ us3, us4, gs ++ gs', ids ++ ids', by simp, q1, fun v hv => k2 v (q2 v hv), by rw [k3, q3, List.append_assoc], k4.append q4, fun G1 G2 hb => ?_⟩
        have e1 : G1 ++ (gs ++ gs') ++ G2 = G1 ++ gs ++ (gs' ++ G2) := by simp
        have e2 : G1 ++ (gs ++ gs') ++ G2 = (G1 ++ gs) ++ gs' ++ G2 := by simp
        refine All2.append ?_ ?_
        · rw [e1]; exact k5 G1 _ hb
        · rw [e2]; exact q5 (G1 ++ gs) G2 (by simp [hb, k4.len])
      · cases h
    · cases h

theorem own_val (hH : HR B F w g H) {t : Ty} {v : AV} {x : t.den} {u : Value} (b : Nat) (h : asTy H t v = some x) (hv : VR1 F w g v u) (hn : ∀ v' ∈ cellsOf v, ∀ t l, v' ≠ .sl t l) :
    ∃ gs ids, ids.Sublist (ownIds (cellsOf v)) ∧ SrcL F w g H ids gs (ownVal t x b).2 ∧ ∀ G1 G2, G1.length = b → VR1 F w (G1 ++ gs ++ G2) (ownVal t x b).1 u := by
  obtain ⟨hs, hsh⟩ := asTy_sol h
  have hcells := (solid_cells hs hv).1
  have hcol : collapse H t (cellsOf v) = some (x, []) := by
    unfold asTy at h
    split at h
    · rename_i hc; cases h; exact hc
    · cases h
  obtain ⟨us1, us2, gs, ids, e1, k1, k2, k3, k4, k5⟩ := own_cells hH t (cellsOf v) x [] _ b hcol hcells hn
  cases k1
  rw [List.append_nil] at e1
  have k3 : ownIds (cellsOf v) = ids := by rw [k3]; simp [ownIds]
  have hleaf : (∀ cs, v ≠ .agg cs) → u.cells = #[u] := by
    intro hn
    have hs0 : solid0 v = true := by cases v <;> first | exact hs | exact absurd rfl (hn _)
    exact oneCell_cells (solid0_cell hs0 hv)
  have hone : ∀ {y : AV} {G : List GE}, (∀ cs, v ≠ .agg cs) → All2 (VR0 F w G) [y] us1 → VR0 F w G y u := by
    intro y G hn' ha
    rw [← e1, hleaf hn'] at ha
    cases ha with
    | cons h _ => exact h
  cases t with
  | st t =>
    cases v <;> simp only [shapeOk] at hsh <;> try (cases hsh; done)
    obtain ⟨vs, rfl, _⟩ := hv
    refine ⟨gs, ids, by rw [k3]; exact List.Sublist.refl _, k4, fun G1 G2 hb => ⟨vs, rfl, ?_⟩⟩
    have e1 : vs.toList = us1 := e1
    rw [e1]
    exact k5 G1 G2 hb
  | sl t => exact ⟨gs, ids, by rw [k3]; exact List.Sublist.refl _, k4, fun G1 G2 hb => hone (by rintro cs rfl; cases hsh) (k5 G1 G2 hb)⟩
  | int k => exact ⟨gs, ids, by rw [k3]; exact List.Sublist.refl _, k4, fun G1 G2 hb => hone (by rintro cs rfl; cases hsh) (k5 G1 G2 hb)⟩
  | bool => exact ⟨gs, ids, by rw [k3]; exact List.Sublist.refl _, k4, fun G1 G2 hb => hone (by rintro cs rfl; cases hsh) (k5 G1 G2 hb)⟩
  | str => exact ⟨gs, ids, by rw [k3]; exact List.Sublist.refl _, k4, fun G1 G2 hb => hone (by rintro cs rfl; cases hsh) (k5 G1 G2 hb)⟩
  | unit => exact ⟨[], [], List.nil_sublist _, .nil, fun G1 G2 hb => trivial⟩
  | pair a b => exact ⟨[], [], List.nil_sublist _, .nil, fun G1 G2 hb => trivial⟩

theorem own_tup (hH : HR B F w g H) : (ts : List Ty) → (vs : List AV) → (x : (retTy ts).den) → (us : List Value) → (b : Nat) → decTup H ts vs = some x → All2 (VR1 F w g) vs us → (∀ v ∈ vs, ∀ v' ∈ cellsOf v, ∀ t l, v' ≠ .sl t l) →
    ∃ gs ids, ids.Sublist (ownIds (vs.flatMap cellsOf)) ∧ SrcL F w g H ids gs (retVals true ts x b).2 ∧ ∀ G1 G2, G1.length = b → All2 (VR1 F w (G1 ++ gs ++ G2)) (retVals true ts x b).1 us
  | [], [], x, us, b, h, hv, _ => by cases hv; exact ⟨[], [], List.nil_sublist _, .nil, fun _ _ _ => .nil⟩
  | [], v :: vs, x, us, b, h, hv, _ => by cases h
  | [t], [v], x, us, b, h, hv, hn => by
    cases hv with
    | cons h1 h2 =>
      cases h2
      obtain ⟨gs, ids, k1, k2, k3⟩ := own_val hH b h h1 (hn v (by simp))
      exact ⟨gs, ids, by simpa using k1, k2, fun G1 G2 hb => .cons (k3 G1 G2 hb) .nil⟩
  | [t], [], x, us, b, h, hv, _ => by cases h
  | [t], v :: v' :: vs, x, us, b, h, hv, _ => by simp [decTup] at h
  | t :: u :: ts, [], x, us, b, h, hv, _ => by cases h
  | t :: u :: ts, v :: vs, x, us, b, h, hv, hn => by
    cases hv with
    | cons h1 h2 =>
      simp only [decTup] at h
      split at h
      · rename_i y hy
        split at h
        · rename_i z hz
          cases h
          obtain ⟨gs, ids, k1, k2, k3⟩ := own_val hH b hy h1 (hn v (by simp))
          obtain ⟨gs', ids', q1, q2, q3⟩ := own_tup hH (u :: ts) vs z _ (b + (ownVal t y b).2.length) hz h2 fun v' hv' => hn v' (by simp [hv'])
          refine ⟨gs ++ gs', ids ++ ids', ?_, k2.append q2, fun G1 G2 hb => ?_⟩
          · rw [List.flatMap_cons, ownIds_append]; exact k1.append q1
          · have e1 : G1 ++ (gs ++ gs') ++ G2 = G1 ++ gs ++ (gs' ++ G2) := by simp
            have e2 : G1 ++ (gs ++ gs') ++ G2 = (G1 ++ gs) ++ gs' ++ G2 := by simp
            refine .cons ?_ ?_
            · rw [e1]; exact k3 G1 _ hb
            · rw [e2]; exact q3 (G1 ++ gs) G2 (by simp [hb, k2.len])
        · cases h
      · cases h

theorem ownOk_cells {v : AV} : ownOk H v = ((ownIds (retCells v)).all (fun id => match H[id]? with | some (.arr _ _ false) => true | _ => false) && (ownIds (retCells v)).length == (addNew [] (ownIds (retCells v))).length &&
    (retCells v).all (fun | .sl .. => false | _ => true)) := by cases v <;> rfl

theorem back_src (hH : HR B F w g H) : (back : List Ty) → (y : (retTy (slTys back)).den) → (j : Nat) → (g0 : List GE) → decBack H j back = some y → g0.length = back.length → (∀ (i : Nat) e, g0[i]? = some e → g[j + i]? = some e) →
    SrcL F w g H (List.range' j back.length) g0 (backBlks back y)
  | [], y, j, g0, _, hl, _ => by
    obtain rfl : g0 = [] := List.length_eq_zero_iff.1 hl
    exact .nil
  | [t], y, j, g0, h, hl, hg => by
    obtain ⟨e, rfl⟩ : ∃ e, g0 = [e] := by
      match g0, hl with
      | [e], _ => exact ⟨e, rfl⟩
    have h : blkL H t j = some y := h
    unfold blkL at h
    split at h
    · rename_i t' l hb
      have : t' = t := by unfold castL? at h; split at h <;> simp_all
      subst this
      rw [asSl_cast] at h
      cases h
      have he := hg 0 e rfl
      exact .id he hb (fun h => ⟨h, rfl⟩) (hH.blk j _ e hb he) .nil
    · cases h
  | t :: u :: r, y, j, g0, h, hl, hg => by
    obtain ⟨e, g1, rfl⟩ : ∃ e g1, g0 = e :: g1 := by
      match g0, hl with
      | e :: g1, _ => exact ⟨e, g1, rfl⟩
    simp only [decBack] at h
    split at h
    · rename_i l hl1
      split at h
      · rename_i y' hy'
        cases h
        have hrest := back_src hH (u :: r) y' (j + 1) g1 hy' (by simpa using hl) (fun i e h => by have := hg (i + 1) e (by simpa using h); rw [show j + 1 + i = j + (i + 1) by omega]; exact this)
        unfold blkL at hl1
        split at hl1
        · rename_i t' l' hb
          have : t' = t := by unfold castL? at hl1; split at hl1 <;> simp_all
          subst this
          rw [asSl_cast] at hl1
          cases hl1
          have he := hg 0 e rfl
          exact .id he hb (fun h => ⟨h, rfl⟩) (hH.blk j _ e hb he) hrest
        · cases hl1
      · cases h
    · cases h

theorem rFst_mk (ts back : List Ty) (x : (retTy ts).den) (y : (retTy (slTys back)).den) : rFst ts back (rMk ts back x y) = x := by cases back <;> rfl
theorem rSnd_mk (ts back : List Ty) (x : (retTy ts).den) (y : (retTy (slTys back)).den) : rSnd ts back (rMk ts back x y) = y := by
  cases back with
  | nil => rfl
  | cons a b => rfl

theorem ret_own (hH : HR B F w g H) {F0 : Fz} {g0 : List GE} {w0 : World} (hb : Gr B F0 [] w0 F [] w) {ts back : List Ty} {v : AV} {u : Value} {x : (retTy ts).den} {y : (retTy (slTys back)).den}
    (hk : back = [] ∨ (g0.length = back.length ∧ ∀ (i : Nat) e, g0[i]? = some e → g[i]? = some e)) (ho : finOk true back v H = true) (h : decRet ts (v, H) = some x) (hy : decBack H 0 back = some y) (hv : VR2 F w g v u) :
    RetOk B true ts back F0 g0 w0 w (rMk ts back x y) u := by
  unfold finOk at ho
  simp only [Bool.and_eq_true] at ho
  obtain ⟨ho, hfree⟩ := ho
  rw [ownOk_cells] at ho
  generalize hcs : retCells v = cs at ho hfree
  simp only [Bool.and_eq_true, List.all_eq_true, beq_iff_eq] at ho
  obtain ⟨⟨ho1, ho2⟩, ho3⟩ := ho
  have hnd : (ownIds cs).Nodup := addNew_len_nodup ho2
  have hge : ∀ i ∈ ownIds cs, back.length ≤ i := fun i hi => Nat.le_of_ble_eq_true (List.all_eq_true.1 hfree i hi)
  have hlent : ∀ i ∈ ownIds cs, ∃ t l, H[i]? = some (.arr t l false) := by
    intro i hi
    have := ho1 i hi
    split at this
    · rename_i t l hb; exact ⟨t, l, hb⟩
    · cases this
  have hsl : ∀ v ∈ cs, ∀ t l, v ≠ .sl t l := by
    rintro v hv t l rfl
    have := ho3 _ hv
    cases this
  -- the blocks that come back
  have hgl : (gb back g0).length = back.length := by
    cases back with
    | nil => rfl
    | cons t r => rcases hk with h | h; · cases h
                  · exact h.1
  have hbs : SrcL F w g H (List.range' 0 back.length) (gb back g0) (backBlks back y) := by
    refine back_src hH back y 0 _ hy hgl fun i e he => ?_
    cases back with
    | nil => simp [gb] at he
    | cons t r =>
      rcases hk with h | h
      · cases h
      · rw [Nat.zero_add]; exact h.2 i e he
  have hbl : ∀ (back : List Ty) (y : (retTy (slTys back)).den) (j : Nat), decBack H j back = some y → ∀ i, j ≤ i → i < j + back.length → ∃ t l, H[i]? = some (.arr t l false) := by
    intro back
    induction back with
    | nil => intro y j _ i h1 h2; simp at h2; omega
    | cons t r ih =>
      intro y j h i h1 h2
      have hb : ∀ {l}, blkL H t j = some l → ∃ t l, H[j]? = some (.arr t l false) := by
        intro l h
        unfold blkL at h
        split at h
        · rename_i t' l hb; exact ⟨_, _, hb⟩
        · cases h
      cases r with
      | nil =>
        have : i = j := by simp at h2; omega
        subst this
        exact hb h
      | cons u r =>
        simp only [decBack] at h
        split at h
        · rename_i l hl
          split at h
          · rename_i y' hy'
            by_cases hij : i = j
            · subst hij; exact hb hl
            · exact ih y' (j + 1) hy' i (by omega) (by simp at h2 ⊢; omega)
          · cases h
        · cases h
  have fin : ∀ {gs ids}, ids.Sublist (ownIds cs) → SrcL F w g H ids gs (retVals true ts x (gb back g0).length).2 → VR2 F w (gb back g0 ++ gs) (one (retVals true ts x (gb back g0).length).1) u → RetOk B true ts back F0 g0 w0 w (rMk ts back x y) u := by
    intro gs ids h1 h2 h3
    refine ⟨F, gs, ⟨hb.up, hb.new, hb.cell, fun i e h => h, hb.below⟩, ?_, ?_⟩
    · rw [rFst_mk, rSnd_mk]
      refine src_HR hH (hbs.append h2) ?_ fun i hi => ?_
      · rw [List.nodup_append]
        refine ⟨List.nodup_range', h1.nodup hnd, fun a ha b hb => ?_⟩
        rw [List.mem_range'_1] at ha
        have := hge b (h1.subset hb)
        omega
      · rcases List.mem_append.1 hi with hi | hi
        · rw [List.mem_range'_1] at hi
          exact hbl back y 0 hy i (by omega) (by omega)
        · exact hlent i (h1.subset hi)
    · rw [rFst_mk]; exact h3
  have tup : ∀ vs, v = .tup vs → decTup H ts vs = some x → (ts.length ≠ 1) → RetOk B true ts back F0 g0 w0 w (rMk ts back x y) u := by
    rintro vs rfl hd hl
    have hcs : vs.flatMap cellsOf = cs := hcs
    subst hcs
    obtain ⟨us, rfl, hall⟩ := hv
    obtain ⟨gs, ids, k1, k2, k3⟩ := own_tup hH ts vs x _ (gb back g0).length hd hall fun v hv v' hv' => hsl v' (List.mem_flatMap.2 ⟨v, hv, hv'⟩)
    refine fin k1 k2 ?_
    have := k3 (gb back g0) [] rfl
    simp only [List.append_nil] at this
    clear k1 k2 k3 hd fin
    match ts, x, hl, this with
    | [], x, _, this => exact ⟨us, rfl, this⟩
    | [t], _, hl, _ => exact absurd rfl hl
    | [t, t'], x, _, this => exact ⟨us, rfl, this⟩
    | t :: t' :: t'' :: ts, x, _, this => exact ⟨us, rfl, this⟩
  match ts, x, h with
  | [t], x, h =>
    have h : asTy H t v = some x := h
    have hcs' : cellsOf v = cs := by
      have := (asTy_sol h).1
      cases v <;> first | exact hcs | (cases this; done)
    obtain ⟨gs, ids, k1, k2, k3⟩ := own_val hH (gb back g0).length h (VR2_sol hv (asTy_sol h).1) (by rw [hcs']; exact hsl)
    refine fin (by rw [← hcs']; exact k1) k2 ?_
    have := k3 (gb back g0) [] rfl
    simp only [List.append_nil] at this
    exact VR1_2 this
  | [], x, h =>
    cases v with
    | tup vs => exact tup vs rfl h (by simp)
    | _ => simp [decRet] at h
  | t :: t' :: ts, x, h =>
    cases v with
    | tup vs => exact tup vs rfl h (by simp)
    | _ => simp [decRet] at h
end
end Go.Proofs.YtjklgmflillagaaDoor.Ev
