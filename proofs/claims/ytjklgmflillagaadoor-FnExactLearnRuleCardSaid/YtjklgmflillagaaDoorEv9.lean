/- Slices of slices and of strings, places of elements and of fields. -/
import Derived.Test.YtjklgmflillagaaDoorEv8
namespace Go.Proofs.YtjklgmflillagaaDoor.Ev
open Go Go.RowKit
set_option linter.unusedVariables false
set_option linter.unusedSimpArgs false

section
variable {α : Type} {P : Program} {E : Env} {B : Nat → Prop} {F : Fz} {g : List GE} {w : World} {H : Hp}

/-- an operand that may be missing -/
def VO (F : Fz) (w : World) (g : List GE) : Option AV → Option Value → Prop
  | none, none => True
  | some a, some b => VR2 F w g a b
  | _, _ => False

theorem run_sliceBound {k : IntKind} {i : Int} {y : Nat} {code : BoundsCode} (h : 0 ≤ i ∧ i ≤ (y : Int)) : (Instr.sliceBound (.int k i) y code).run P w = .ok i.toNat w := by
  simp only [Instr.sliceBound, asIntOf, Sem.run_bind, Sem.run_pure, Result.andThen, if_pos h]

theorem boundsK_ok {n cap : Nat} {isS : Bool} {lo hi : Option AV} {low high : Option Value} {K : Nat → Nat → Option α} {r : α} (h : boundsK n lo hi K = some r) (hn : n ≤ cap)
    (hlo : VO F w g lo low) (hhi : VO F w g hi high) : ∃ l k, l ≤ k ∧ k ≤ n ∧ K l k = some r ∧ (Instr.sliceBounds isS n cap low high none).run P w = .ok (l, k, cap) w := by
  unfold boundsK at h
  split at h
  · cases high with
    | some _ => exact hhi.elim
    | none =>
      split at h
      · cases low with
        | some _ => exact hlo.elim
        | none => exact ⟨0, n, Nat.zero_le _, Nat.le_refl _, h, by simp [Instr.sliceBounds]⟩
      · cases low with
        | none => exact hlo.elim
        | some lv =>
          rename_i k l
          have hl : lv = .int k l := hlo
          subst hl
          obtain ⟨h1, h2⟩ := cond_some h
          have h3 := of_decide_eq_true h1
          refine ⟨l.toNat, n, by omega, Nat.le_refl _, h2, ?_⟩
          simp only [Instr.sliceBounds, Sem.run_bind, Sem.run_pure, Result.andThen, run_sliceBound h3]
      · cases h
  · cases high with
    | none => exact hhi.elim
    | some hv =>
      rename_i k hh
      have he : hv = .int k hh := hhi
      subst he
      obtain ⟨h1, h2⟩ := cond_some h
      have h3 := of_decide_eq_true h1
      have h4 : 0 ≤ hh ∧ hh ≤ (cap : Int) := by omega
      split at h2
      · cases low with
        | some _ => exact hlo.elim
        | none =>
          refine ⟨0, hh.toNat, Nat.zero_le _, by omega, h2, ?_⟩
          simp only [Instr.sliceBounds, Sem.run_bind, Sem.run_pure, Result.andThen, run_sliceBound h4]
      · cases low with
        | none => exact hlo.elim
        | some lv =>
          rename_i k l
          have hl : lv = .int k l := hlo
          subst hl
          obtain ⟨h5, h6⟩ := cond_some h2
          have h7 := of_decide_eq_true h5
          have h8 : 0 ≤ l ∧ l ≤ (hh.toNat : Int) := by omega
          refine ⟨l.toNat, hh.toNat, by omega, by omega, h6, ?_⟩
          simp only [Instr.sliceBounds, Sem.run_bind, Sem.run_pure, Result.andThen, run_sliceBound h4, run_sliceBound h8]
      · cases h2
  · cases h

theorem run_slice {t e : TypeId} {i : TypeInfo} {a : Option Addr} {len cap l h m : Nat} {low high max : Option Value} (ht : P.underlying t = some (.slice e)) (hi : P.info? e = some i)
    (hb : (Instr.sliceBounds true len cap low high max).run P w = .ok (l, h, m) w) :
    (Instr.sliceAt t (.slice a len cap) low high max).run P w = .ok (.slice (if m = l then a else a.map (·.add (l * i.size))) (h - l) (m - l)) w := by
  simp only [Instr.sliceAt, Instr.slice, Sem.run_bind, Sem.run_pure, run_underlying ht, Result.andThen, hb, run_sizeOf hi]

theorem sliceK_ok {t e : TypeId} {i : TypeInfo} {x : AV} {u : Value} {lo hi mx : Option AV} {low high max : Option Value} {K : AV → Option α} {r : α} (ht : P.underlying t = some (.slice e)) (hi' : P.info? e = some i)
    (h : sliceK i.size x lo hi mx K = some r) (hx : VR2 F w g x u) (hlo : VO F w g lo low) (hhi : VO F w g hi high) (hmx : VO F w g mx max) (hH : HR B F w g H) :
    ∃ σ z, K σ = some r ∧ (Instr.sliceAt t u low high max).run P w = .ok z w ∧ VR2 F w g σ z := by
  have hgen : ∀ (x : AV), (match x with | .sl .. | .emp | .all .. | .own .. => True | _ => False) → VR2 F w g x u → ∃ A n c, u = .slice A n c := by
    intro x hx0 hx
    cases x <;> simp only at hx0
    · have hx : CR F w (.sl _) _ [u] := hx
      simp only [CR] at hx
      obtain ⟨A, c, h1, _⟩ := hx
      cases h1; exact ⟨_, _, _, rfl⟩
    · obtain ⟨A, rfl⟩ := hx; exact ⟨_, _, _, rfl⟩
    · obtain ⟨e, A, _, _, _, _, rfl, _⟩ := hx; exact ⟨_, _, _, rfl⟩
    · obtain ⟨e, A, _, _, _, _, rfl, _⟩ := hx; exact ⟨_, _, _, rfl⟩
  unfold sliceK at h
  split at h
  · -- three indexes, all nought
    cases max with
    | none => exact hmx.elim
    | some mv =>
      rename_i k0
      have hm : mv = .int k0 0 := hmx
      subst hm
      split at h
      · rename_i k1
        cases low with
        | some _ => exact hlo.elim
        | none =>
          cases high with
          | none => exact hhi.elim
          | some hv =>
            have hh : hv = .int k1 0 := hhi
            subst hh
            have hfin : ∀ A n c, u = .slice A n c → K .emp = some r → ∃ σ z, K σ = some r ∧ (Instr.sliceAt t u none (some (.int k1 0)) (some (.int k0 0))).run P w = .ok z w ∧ VR2 F w g σ z := by
              intro A n c hu hK
              subst hu
              refine ⟨.emp, _, hK, run_slice (l := 0) (h := 0) (m := 0) ht hi' ?_, ⟨A, by simp⟩⟩
              have h0 : ∀ y : Nat, (0 : Int) ≤ 0 ∧ (0 : Int) ≤ (y : Int) := fun y => by omega
              simp only [Instr.sliceBounds, Sem.run_bind, Sem.run_pure, Result.andThen, run_sliceBound (h0 _)]
              rfl
            split at h <;> first
              | (obtain ⟨A, n, c, hu⟩ := hgen _ trivial hx; exact hfin A n c hu h)
              | cases h
      · cases h
  · cases h
  · cases max with
    | some _ => exact hmx.elim
    | none =>
      split at h
      · -- for reading
        rename_i te xs
        split at h
        · rename_i hsz
          have hsz := Nat.eq_of_beq_eq_true hsz
          have hx : CR F w (.sl te) xs [u] := hx
          simp only [CR] at hx
          obtain ⟨A, c, h1, hc, hr⟩ := hx
          cases h1
          obtain ⟨l, k, hlk, hkn, hK, hb⟩ := boundsK_ok (P := P) (isS := true) h hc hlo hhi
          refine ⟨_, _, hK, run_slice ht hi' hb, ?_⟩
          have hlen : ((xs.take k).drop l).length = k - l := by simp; omega
          show CR F w (.sl te) _ _
          simp only [CR]
          refine ⟨_, _, by rw [hlen], by rw [hlen]; omega, fun j y hy => ?_⟩
          have hj := idx_lt hy
          rw [hlen] at hj
          rw [List.getElem?_drop, List.getElem?_take, if_pos (by omega)] at hy
          obtain ⟨ad, rfl, hs, us, ha, hl, hu⟩ := hr _ _ hy
          have hne : ¬ (c = l) := by omega
          refine ⟨⟨ad.block, ad.off + l * i.size, none⟩, by rw [if_neg hne, Option.map_some, Addr.add_plain _ hs], rfl, us, ha, hl, fun m z hz => ?_⟩
          have e1 : ad.off + l * i.size + (j * te.size + m) = ad.off + ((l + j) * te.size + m) := by
            rw [← hsz, Nat.add_mul]; omega
          show F ad.block (ad.off + l * i.size + (j * te.size + m)) ∧ w.cell? ⟨ad.block, ad.off + l * i.size + (j * te.size + m), none⟩ = some z
          rw [e1]
          exact hu m z hz
        · cases h
      · -- none
        obtain ⟨A, rfl⟩ := hx
        obtain ⟨l, k, hlk, hkn, hK, hb⟩ := boundsK_ok (P := P) (isS := true) (cap := 0) h (Nat.le_refl _) hlo hhi
        refine ⟨_, _, hK, run_slice ht hi' hb, ?_⟩
        have hl0 : l = 0 := by omega
        have hk0 : k = 0 := by omega
        subst hl0 hk0
        exact ⟨A, by simp⟩
      · -- a whole own one
        rename_i id sz n
        split at h
        · rename_i hsz
          have hsz := Nat.eq_of_beq_eq_true hsz
          obtain ⟨e', A, he, hn, hesz, hsp, rfl, hA, hnc⟩ := hx
          obtain ⟨l, k, hlk, hkn, hK, hb⟩ := boundsK_ok (P := P) (isS := true) h hnc hlo hhi
          refine ⟨_, _, hK, run_slice ht hi' hb, e', _, he, by omega, hesz, by omega, rfl, fun hc => ?_⟩
          have hne : ¬ (e'.cap = l) := by omega
          rw [if_neg hne, hA (by omega), Option.map_some, Addr.add_plain _ hsp, hesz, hsz]
        · cases h
      · rename_i id sz off n
        split at h
        · rename_i hsz
          have hsz := Nat.eq_of_beq_eq_true hsz
          obtain ⟨e', A, he, hn, hesz, hnc, rfl, hA⟩ := hx
          obtain ⟨l, k, hlk, hkn, hK, hb⟩ := boundsK_ok (P := P) (isS := true) (cap := e'.cap - off) h (by omega) hlo hhi
          refine ⟨_, _, hK, run_slice ht hi' hb, e', _, he, by omega, hesz, hnc, by rw [Nat.sub_sub], fun hc => ?_⟩
          have hne : ¬ (e'.cap - off = l) := by omega
          rw [if_neg hne, hA (by omega), Option.map_some, Addr.add_plain _ rfl, hesz, hsz, Nat.add_mul, Nat.add_assoc]
        · cases h
      · cases h

theorem sliceW_ok {t e : TypeId} {i : TypeInfo} {x : AV} {u : Value} {lo hi : Option AV} {low high : Option Value} {K : AV → Option α} {r : α} (ht : P.underlying t = some (.slice e)) (hi' : P.info? e = some i)
    (h : sliceK i.size (widen H hi.isSome x) lo hi none K = some r) (hx : VR2 F w g x u) (hlo : VO F w g lo low) (hhi : VO F w g hi high) (hH : HR B F w g H) :
    ∃ σ z, K σ = some r ∧ (Instr.sliceAt t u low high none).run P w = .ok z w ∧ VR2 F w g σ z := by
  by_cases hw : ∃ id s off n, x = .own id s off n ∧ hi.isSome = true
  · obtain ⟨id, s, off, n, rfl, hs⟩ := hw
    cases high with
    | none => cases hi with
      | none => cases hs
      | some _ => exact hhi.elim
    | some hv =>
      rw [hs] at h
      simp only [widen] at h
      obtain ⟨e', A, he, hn, hesz, hnc, rfl, hA⟩ := hx
      split at h
      · rename_i t' l s' hb
        have hl := (hH.blk id _ e' hb he).2.1
        have hx' : VR2 F w g (.own id s off (l.length - off)) (.slice A (l.length - off) (e'.cap - off)) := ⟨e', A, he, by omega, hesz, hnc, rfl, hA⟩
        obtain ⟨σ, z, q1, q2, q3⟩ := sliceK_ok (P := P) (max := none) ht hi' h hx' hlo hhi trivial hH
        refine ⟨σ, z, q1, ?_, q3⟩
        rw [← q2]
        simp only [Instr.sliceAt, Instr.slice, Instr.sliceBounds, Sem.run_bind, run_underlying ht, Result.andThen]
      · simp [sliceK] at h
  · have hxe : widen H hi.isSome x = x := by
      unfold widen
      split
      · rename_i a b c d hs; exact absurd ⟨_, _, _, _, rfl, hs⟩ hw
      · rfl
    rw [hxe] at h
    exact sliceK_ok (max := none) ht hi' h hx hlo hhi trivial hH

theorem threeK_ok {t e : TypeId} {i : TypeInfo} {x mx : AV} {u max : Value} {lo hi : Option AV} {low high : Option Value} {K : AV → Option α} {r : α} (ht : P.underlying t = some (.slice e)) (hi' : P.info? e = some i)
    (h : threeK x lo hi mx K = some r) (hx : VR2 F w g x u) (hlo : VO F w g lo low) (hhi : VO F w g hi high) (hmx : VR2 F w g mx max) :
    ∃ σ z, K σ = some r ∧ (Instr.sliceAt t u low high (some max)).run P w = .ok z w ∧ VR2 F w g σ z := by
  have hgen : ∀ (n : Nat), slLen x = some n → ∃ A c, u = .slice A n c ∧ n ≤ c := by
    intro n hn
    cases x with
    | sl te xs =>
      cases hn
      have hx : CR F w (.sl te) xs [u] := hx
      simp only [CR] at hx
      obtain ⟨A, c, h1, h2, _⟩ := hx
      cases h1; exact ⟨_, _, rfl, h2⟩
    | emp => cases hn; obtain ⟨A, rfl⟩ := hx; exact ⟨_, _, rfl, Nat.le_refl _⟩
    | all id s m => cases hn; obtain ⟨e, A, _, _, _, _, rfl, _, h2⟩ := hx; exact ⟨_, _, rfl, h2⟩
    | own id s off m => cases hn; obtain ⟨e, A, _, h1, _, h2, rfl, _⟩ := hx; exact ⟨_, _, rfl, by omega⟩
    | _ => cases hn
  unfold threeK at h
  split at h
  · rename_i n k1 hh k2 m hn
    obtain ⟨A, c, rfl, hnc⟩ := hgen _ hn
    cases low with
    | some _ => exact hlo.elim
    | none =>
      cases high with
      | none => exact hhi.elim
      | some hv =>
        have e1 : hv = .int k1 hh := hhi
        have e2 : max = .int k2 m := hmx
        subst e1 e2
        obtain ⟨h1, hK⟩ := cond_some h
        have h1 := of_decide_eq_true h1
        refine ⟨_, _, hK, run_slice (l := 0) (h := hh.toNat) (m := m.toNat) ht hi' ?_, trivial⟩
        have q1 : 0 ≤ m ∧ m ≤ (c : Int) := by omega
        have q2 : 0 ≤ hh ∧ hh ≤ (m.toNat : Int) := by omega
        simp only [Instr.sliceBounds, Sem.run_bind, Sem.run_pure, Result.andThen, run_sliceBound q1, run_sliceBound q2]
  · rename_i n k0 l k1 hh k2 m hn
    obtain ⟨A, c, rfl, hnc⟩ := hgen _ hn
    cases low with
    | none => exact hlo.elim
    | some lv =>
      cases high with
      | none => exact hhi.elim
      | some hv =>
        have e0 : lv = .int k0 l := hlo
        have e1 : hv = .int k1 hh := hhi
        have e2 : max = .int k2 m := hmx
        subst e0 e1 e2
        obtain ⟨h1, hK⟩ := cond_some h
        have h1 := of_decide_eq_true h1
        refine ⟨_, _, hK, run_slice (l := l.toNat) (h := hh.toNat) (m := m.toNat) ht hi' ?_, trivial⟩
        have q1 : 0 ≤ m ∧ m ≤ (c : Int) := by omega
        have q2 : 0 ≤ hh ∧ hh ≤ (m.toNat : Int) := by omega
        have q3 : 0 ≤ l ∧ l ≤ (hh.toNat : Int) := by omega
        simp only [Instr.sliceBounds, Sem.run_bind, Sem.run_pure, Result.andThen, run_sliceBound q1, run_sliceBound q2, run_sliceBound q3]
  · cases h

theorem strSlice_ok {t : TypeId} {s : ByteArray} {lo hi : Option AV} {low high : Option Value} {K : AV → Option α} {r : α} (ht : P.underlying t = some .string)
    (h : boundsK s.size lo hi (fun l h => K (.str (s.extract l h))) = some r) (hlo : VO F w g lo low) (hhi : VO F w g hi high) :
    ∃ σ z, K σ = some r ∧ (Instr.sliceAt t (.string s) low high none).run P w = .ok z w ∧ VR2 F w g σ z := by
  obtain ⟨l, k, hlk, hkn, hK, hb⟩ := boundsK_ok (P := P) (isS := false) (cap := s.size) h (Nat.le_refl _) hlo hhi
  refine ⟨_, _, hK, ?_, rfl⟩
  simp only [Instr.sliceAt, Instr.slice, Sem.run_bind, Sem.run_pure, run_underlying ht, Result.andThen, hb, Option.isSome_none, Bool.false_eq_true, if_false]

theorem run_index {t e : TypeId} {i : TypeInfo} {a : Addr} {len cap : Nat} {k : IntKind} {j : Int} (ht : P.underlying t = some (.slice e)) (hi : P.info? e = some i) (hj : 0 ≤ j ∧ j < (len : Int)) :
    (Instr.indexAt t (.slice (some a) len cap) (.int k j)).run P w = .ok (.pointer (some (a.add (j.toNat * i.size)))) w := by
  simp only [Instr.indexAt, asIntOf, Sem.run_bind, Sem.run_pure, run_underlying ht, Result.andThen, if_pos hj, run_sizeOf hi]

theorem idxK_ok {t e : TypeId} {i : TypeInfo} {x : AV} {u : Value} {k : IntKind} {j : Int} {K : AV → Option α} {r : α} (ht : P.underlying t = some (.slice e)) (hi : P.info? e = some i)
    (h : idxK i.size x j K = some r) (hx : VR2 F w g x u) : ∃ σ z, K σ = some r ∧ (Instr.indexAt t u (.int k j)).run P w = .ok z w ∧ VR2 F w g σ z := by
  unfold idxK at h
  split at h
  · rename_i te l
    split at h
    · rename_i hsz
      have hsz := Nat.eq_of_beq_eq_true hsz
      obtain ⟨h1, h2⟩ := cond_some h
      have h3 := of_decide_eq_true h1
      have hx : CR F w (.sl te) l [u] := hx
      simp only [CR] at hx
      obtain ⟨A, c, h4, hc, hr⟩ := hx
      cases h4
      have hlt : j.toNat < l.length := by omega
      obtain ⟨ad, rfl, hs, hrest⟩ := hr j.toNat _ (nth_get hlt)
      exact ⟨_, _, h2, run_index ht hi h3, ad, by rw [Addr.add_plain _ hs, hsz]; rfl, hlt, hs, hr⟩
    · cases h
  · rename_i id sz n
    split at h
    · rename_i hsz
      have hsz := Nat.eq_of_beq_eq_true hsz
      obtain ⟨h1, h2⟩ := cond_some h
      have h3 := of_decide_eq_true h1
      obtain ⟨e', A, he, hn, hesz, hsp, rfl, hA, hnc⟩ := hx
      have hA' := hA (by omega)
      subst hA'
      exact ⟨_, _, h2, run_index ht hi h3, e', he, by omega, by rw [Addr.add_plain _ hsp, hesz, hsz]; rfl⟩
    · cases h
  · rename_i id sz off n
    split at h
    · rename_i hsz
      have hsz := Nat.eq_of_beq_eq_true hsz
      obtain ⟨h1, h2⟩ := cond_some h
      have h3 := of_decide_eq_true h1
      obtain ⟨e', A, he, hn, hesz, hnc, rfl, hA⟩ := hx
      have hA' := hA (by omega)
      subst hA'
      refine ⟨_, _, h2, run_index ht hi h3, e', he, by omega, ?_⟩
      rw [Addr.add_plain _ rfl, hesz, hsz, Nat.add_mul, Nat.add_zero, Nat.add_assoc]
    · cases h
  · cases h

theorem fieldPtr_ok {t : TypeId} (ht : TiOk P E t) {f off size : Nat} {agg : Bool} {p q : AV} {u : Value} (hf : (E.ti t).flds[f]? = some (off, size, agg)) (hsz : size ≠ 0) (h : fieldPtr off p = some q) (hp : VR2 F w g p u) :
    ∃ z, (Instr.fieldAt t u f).run P w = .ok z w ∧ VR2 F w g q z := by
  obtain ⟨fs, fd, i, hu, hfd, hoff, hi, hs, _⟩ := ht.flds f off size agg hf
  have hsz' : ¬ (i.size = 0) := by omega
  have hrun : ∀ a : Addr, (Instr.fieldAt t (.pointer (some a)) f).run P w = .ok (.pointer (some (a.add off))) w := by
    intro a
    simp only [Instr.fieldAt, Sem.run_bind, run_underlying hu, Result.andThen, hfd, Instr.sureAddr, Sem.run_pure, fieldPlace, run_sizeOf hi, if_neg hsz', hoff]
  cases p with
  | ptr id j =>
    simp only [fieldPtr] at h
    cases h
    obtain ⟨e, he, rfl⟩ := hp
    exact ⟨_, hrun _, e, he, by rw [Addr.add_plain _ rfl]⟩
  | eptr id j k =>
    simp only [fieldPtr] at h
    cases h
    obtain ⟨e, he, hj, rfl⟩ := hp
    exact ⟨_, hrun _, e, he, hj, by rw [Addr.add_plain _ rfl]; simp only [Nat.add_assoc]⟩
  | rptr te l j k =>
    simp only [fieldPtr] at h
    cases h
    obtain ⟨ad, rfl, hj, hs, hr⟩ := hp
    exact ⟨_, hrun _, ad, by rw [Addr.add_plain _ rfl]; simp only [Nat.add_assoc], hj, hs, hr⟩
  | _ => cases h
end
end Go.Proofs.YtjklgmflillagaaDoor.Ev
