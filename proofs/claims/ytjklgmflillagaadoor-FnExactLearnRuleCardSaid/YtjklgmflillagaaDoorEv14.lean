/- Every operation that calls nothing does what the evaluator says. -/
import Derived.Test.YtjklgmflillagaaDoorEv13
import Derived.Laws.BytesString
namespace Go.Proofs.YtjklgmflillagaaDoor.Ev
open Go Go.RowKit
set_option linter.unusedVariables false
set_option linter.unusedSimpArgs false

section
variable {α : Type} {P : Program} {E : Env} {B : Nat → Prop} {F : Fz} {g : List GE} {w : World} {H : Hp}

theorem bytes_cells {xs : List Int} : ∀ {cs : List Value}, cs.length = xs.length → (∀ (i : Nat) (x : Int), xs[i]? = some x → cs[i]? = some (Value.int .u8 x)) → cs = xs.map (Value.int .u8) := by
  intro cs hl h
  apply List.ext_getElem?
  intro i
  rw [List.getElem?_map]
  cases hx : xs[i]? with
  | none =>
    rw [List.getElem?_eq_none_iff] at hx
    simp; omega
  | some x => simp [h i x hx]

theorem foldl_push (ns : List Int) : ∀ (r : ByteArray), ns.foldl (fun r n => r.push (UInt8.ofNat n.toNat)) r = ⟨r.data ++ (ns.map fun n => UInt8.ofNat n.toNat).toArray⟩ := by
  induction ns with
  | nil => intro r; simp
  | cons n ns ih =>
    intro r
    simp only [List.foldl_cons, ih, List.map_cons]
    congr 1
    simp [ByteArray.push]

theorem asSl_low {t : Ty} {x : AV} {u : Value} {l : List t.den} (h : asSl H t x = some l) (hx : VR2 F w g x u) : VR0 F w g x u := by
  cases x <;> first | exact hx | (simp [asSl] at h)

theorem convertK_ok (hE : ∀ t, TiOk P E t) {src dst : TypeId} {x : AV} {u : Value} {K : AV → Hp → Option α} {r : α} (h : convertK E src dst x H K = some r) (hx : VR2 F w g x u) (hH : HR B F w g H) :
    ∃ σ z, K σ H = some r ∧ (convert src dst u).run P w = .ok z w ∧ VR2 F w g σ z := by
  unfold convertK at h
  split at h
  · rename_i k0 k k1 n hd1 hd2
    have hu : u = .int k1 n := hx
    subst hu
    refine ⟨_, _, h, ?_, rfl⟩
    simp only [convert, Sem.run_bind, run_underlying ((hE src).int _ hd1), run_underlying ((hE dst).int _ hd2), Result.andThen]
    rfl
  · rename_i s hd1 hd2
    have hu : u = .string s := hx
    subst hu
    refine ⟨_, _, h, ?_, rfl⟩
    simp only [convert, Sem.run_bind, run_underlying ((hE src).str hd1), run_underlying ((hE dst).str hd2), Result.andThen]
    rfl
  · rename_i e hd1 hd2
    split at h
    · rename_i l hd3 hl
      have hx0 := asSl_low hl hx
      obtain ⟨A, c, rfl, hc, hrows⟩ := asSl_rows hl hx0 hH
      obtain ⟨cs, c1, c2, c3, c4⟩ := flat hrows l.length (Nat.le_refl _)
      refine ⟨_, _, h, ?_, rfl⟩
      have hsl := (hE src).slice _ hd1
      simp only [convert, Sem.run_bind, run_underlying hsl, run_underlying ((hE dst).str hd2), run_underlying ((hE e).int _ hd3), Result.andThen]
      have hcs : cs = l.map (Value.int .u8) := bytes_cells (by simpa [Ty.size] using c1) (fun i x hi => by
        obtain ⟨us, ha, hu⟩ := c2 i x (idx_lt hi) hi
        simp only [CR] at ha
        subst ha
        have := hu 0 _ rfl
        simpa [Ty.size] using this)
      cases A with
      | none =>
        have : l = [] := by
          cases l with
          | nil => rfl
          | cons a b => obtain ⟨ad, h, _⟩ := hrows 0 a rfl; cases h
        subst this
        rfl
      | some a =>
        have hload : (loadCells a l.length).run P w = .ok (l.map (Value.int .u8)).toArray w := by
          rw [show l.length = (l.map (Value.int .u8)).length by simp]
          exact run_loadCells_list w a _ fun j v hv => by
            rw [← hcs] at hv
            obtain ⟨ad, h, hs, hc⟩ := c3 j v hv
            cases h
            rw [Addr.add_plain _ hs]; exact hc
        have := run_bytesToString (P := P) w a l.length c l hload
        rw [foldl_push] at this
        simpa [bytesStr] using this
    · cases h
  · cases h

theorem nilChk_run {o : Oper} {x : Operand} {ρc : Operand → Value} (ho : o.op = .nilCheck x) {v : AV} (hn : nilChk v = true) (hv : VR2 F w g v (ρc x)) : (execOp ρc o).run P w = .ok (.value (ρc x)) w := by
  have : (∃ a, ρc x = .pointer (some a)) ∨ ∃ f vs, ρc x = .func (.func f) #[] vs := by
    cases v <;> simp only [nilChk] at hn <;> try (cases hn; done)
    · obtain ⟨e, _, h⟩ := hv; exact .inl ⟨_, h⟩
    · obtain ⟨e, _, _, h⟩ := hv; exact .inl ⟨_, h⟩
    · obtain ⟨e, _, _, _, _, h⟩ := hv; exact .inl ⟨_, h⟩
    · obtain ⟨ad, h, _⟩ := hv; exact .inl ⟨_, h⟩
    · obtain ⟨vs, h, _⟩ := hv; exact .inr ⟨_, _, h⟩
  unfold execOp
  rw [ho]
  rcases this with ⟨a, h⟩ | ⟨f, vs, h⟩ <;> simp only [h] <;> rfl

theorem run_isAgg {t : TypeId} {agg : Bool} (h : (isAgg t).run P = fun w => .ok agg w) (w : World) : (isAgg t).run P w = .ok agg w := by rw [h]

theorem wrap_small {n : Int} (h0 : 0 ≤ n) (h1 : n < 4294967296) : IntKind.i64.wrap n = n := by
  have e1 : (2 : Int) ^ IntKind.i64.bits = 18446744073709551616 := rfl
  have e2 : (2 : Int) ^ (IntKind.i64.bits - 1) = 9223372036854775808 := rfl
  unfold IntKind.wrap
  simp only [e1, e2]
  have : n % 18446744073709551616 = n := Int.emod_eq_of_lt h0 (by omega)
  rw [this]
  have h3 : ¬ (n ≥ 9223372036854775808) := by omega
  simp [h3]

theorem makeSlice_ok {t e : TypeId} (ht : TiOk P E t) (hd : (E.ti t).d = .slice e) {k k' : IntKind} {l c : Int} (h1 : 0 ≤ l) (h2 : l ≤ c) (h3 : c < 4294967296) (hH : HR B F w g H) (hB : Bs B w) :
    ∃ w' g' y, (Instr.makeSlice t (.int k l) (.int k' c)).run P w = .ok y w' ∧ Gr B F g w F g' w' ∧ HR B F w' g' (H ++ [.arr (E.ti e).ty (List.replicate l.toNat (E.ti e).ty.dft) false]) ∧
      VR0 F w' g' (.all H.length (E.ti e).ty.size (List.replicate l.toNat (E.ti e).ty.dft).length) y := by
  obtain ⟨i, z, hi, hsz, hby, hsz2, hz, hzr⟩ := ht.elem e (.inl hd)
  have hu := ht.slice e hd
  have hlaid := laid_zero (F := F) (w := w) (hzr F w) c.toNat
  have hn : (List.replicate l.toNat (E.ti e).ty.dft).length = l.toNat := by simp
  obtain ⟨g', a, b, q⟩ := new_arr (t := (E.ti e).ty) false (l := List.replicate l.toNat (E.ti e).ty.dft) (cells := (Array.range (c.toNat * (E.ti e).ty.size)).map (z.cells[· % z.cells.size]!)) (el := e) (cap := c.toNat)
    hH hB (News.refl w) (by rw [hn]; omega) (by simp) (fun i x hx => by
      have hil := idx_lt hx
      rw [hn] at hil
      rw [List.getElem?_replicate, if_pos hil] at hx
      cases hx
      exact hlaid.2 i _ (by rw [List.getElem?_replicate, if_pos (by omega)]))
  refine ⟨_, g', _, ?_, a, b, q⟩
  rw [hn]
  have hw1 := wrap_small h1 (by omega : l < 4294967296)
  have hw2 := wrap_small (by omega : 0 ≤ c) h3
  have hbig : ¬ ((i.bytes : Int) * c > 2 ^ 48) := by
    have h5 : (i.bytes : Int) * c ≤ 1024 * c := Int.mul_le_mul_of_nonneg_right (by omega) (by omega)
    omega
  have hcond : ¬ ((decide (c < 0) || decide ((i.bytes : Int) * c > 2 ^ 48) || decide (l < 0) || decide (l > c)) = true) := by
    simp only [Bool.or_eq_true, decide_eq_true_eq]
    omega
  have hroom : ∀ n : Nat, (askRoom n).run P w = .ok () w := by
    intro n; unfold askRoom; split <;> rfl
  have hti : (typeInfo e).run P w = .ok i w := by simp [typeInfo, program, Sem.run_bind, Sem.run, hi, Result.andThen]
  by_cases h0 : c.toNat * i.size = 0
  · have harr : (Array.range (c.toNat * i.size)).map ((#[] : Array Value)[· % (#[] : Array Value).size]!) = (Array.range (c.toNat * (E.ti e).ty.size)).map (z.cells[· % z.cells.size]!) := by
      rw [← hsz, h0]; apply Array.ext <;> simp
    simp only [Instr.makeSlice, Sem.run_bind, run_underlying hu, Result.andThen, asInt, asIntOf, Sem.run_pure, hti, hw1, hw2, hcond, Bool.false_eq_true, if_false, hroom, run_sizeOf hi, if_pos h0, harr]
    rfl
  · have hz0 : (zeroValue e).run P w = .ok z w := by simp [zeroValue, typeInfo, program, Sem.run_bind, Sem.run, hi, hz, Result.andThen]
    simp only [Instr.makeSlice, Sem.run_bind, run_underlying hu, Result.andThen, asInt, asIntOf, Sem.run_pure, hti, hw1, hw2, hcond, Bool.false_eq_true, if_false, hroom, run_sizeOf hi, if_neg h0, hz0]
    rw [hsz]
    rfl

theorem opK_ok (hE : ∀ t, TiOk P E t) {o : Oper} {ρ : Operand → AV} {ρc : Operand → Value} {K : AV → Hp → Option α} {r : α} (h : opK E o.op ρ H K = some r)
    (hρ : ∀ y ∈ o.op.operands, VR2 F w g (ρ y) (ρc y)) (hH : HR B F w g H) (hB : Bs B w) (hcst : ∀ v, ρc (.const v) = v) :
    OpOk B F g w ((execOp ρc o).run P w) (fun σ H' => K σ H' = some r) := by
  have hplain : ∀ {s : Sem Value}, execOp ρc o = (do pure (.value (← s))) → (∃ σ z, K σ H = some r ∧ s.run P w = .ok z w ∧ VR2 F w g σ z) → OpOk B F g w ((execOp ρc o).run P w) (fun σ H' => K σ H' = some r) := by
    rintro s hs ⟨σ, z, h1, h2, h3⟩
    rw [hs]
    exact OpOk.plain h2 hH h1 h3
  cases hop : o.op with
  | move x =>
    rw [hop] at h hρ
    have hx := hρ x (by simp [Op.operands])
    exact ⟨ρ x, H, ρc x, w, F, g, h, .inl (by simp only [execOp, hop]; rfl), hx, Gr.refl .., hH⟩
  | assign x =>
    rw [hop] at h hρ
    have hx := hρ x (by simp [Op.operands])
    exact ⟨ρ x, H, ρc x, w, F, g, h, .inl (by simp only [execOp, hop]; rfl), hx, Gr.refl .., hH⟩
  | pick c a b =>
    rw [hop] at h hρ
    have hc := hρ c (by simp [Op.operands])
    have ha := hρ a (by simp [Op.operands])
    have hb := hρ b (by simp [Op.operands])
    simp only [opK] at h
    split at h
    · rename_i q hq
      rw [hq] at hc
      have hc : ρc c = .bool q := hc
      cases q with
      | true => exact ⟨ρ a, H, ρc a, w, F, g, h, .inl (by simp only [execOp, hop, hc]; rfl), ha, Gr.refl .., hH⟩
      | false => exact ⟨ρ b, H, ρc b, w, F, g, h, .inl (by simp only [execOp, hop, hc]; rfl), hb, Gr.refl .., hH⟩
    · cases h
  | alloc t =>
    rw [hop] at h
    simp only [opK] at h
    split at h
    · cases h
    · split at h
      · rename_i hz
        have hz := eq_of_beq hz
        have hne : (E.ti t).size ≠ 1000000000 := by
          have := (hE t).zlen
          omega
        obtain ⟨i, z, h1, h2, h3, h4, h5, h6⟩ := (hE t).info hne
        obtain ⟨g', a, b, k⟩ := new_var (el := t) hH hB (h6 hz F w g)
        have hrun : (Instr.alloc t true (.tuple #[])).run P w = .ok (.pointer (some ⟨w.heap.size, 0, none⟩)) (w.alloc (.cells z.cells t)) := by
          simp [Instr.alloc, zeroValue, typeInfo, program, Sem.run_bind, Sem.run, h1, h5, Result.andThen, newVar, newRow]
        have : execOp ρc o = (do pure (.value (← Instr.alloc t true (.tuple #[])))) := by simp only [execOp, hop]
        rw [this]
        exact OpOk.mem hrun h (VR0_2 k) a b
      · cases h
  | box t x =>
    rw [hop] at h hρ
    have hx := hρ x (by simp [Op.operands])
    simp only [opK] at h
    split at h
    · cases h
    · split at h
      · rename_i hc
        simp only [Bool.and_eq_true] at hc
        obtain ⟨hs, hl⟩ := hc
        obtain ⟨hcells, _⟩ := solid_cells hs (VR2_sol hx hs)
        obtain ⟨g', a, b, k⟩ := new_var (el := t) hH hB hcells
        have : execOp ρc o = (do pure (.value (← Instr.box t (ρc x)))) := by simp only [execOp, hop]
        rw [this]
        exact OpOk.mem (by simp [Instr.box, newVar, newRow]) h (VR0_2 k) a b
      · cases h
  | build t parts =>
    rw [hop] at h hρ
    simp only [opK] at h
    split at h
    · rename_i hd hz
      have hz := eq_of_beq hz
      have hne : (E.ti t).size ≠ 1000000000 := by
        have := (hE t).zlen
        omega
      obtain ⟨i, z, h1, h2, h3, h4, h5, h6⟩ := (hE t).info hne
      obtain ⟨fs, pl, p1, p2, p3⟩ := (hE t).places hd
      split at h
      · rename_i cs hcs
        have hpx : ∀ p ∈ parts.toList, VR1 F w g (ρ p.2) (ρc p.2) ∨ solid (ρ p.2) = false := fun p hp => by
          cases hs : solid (ρ p.2) with
          | false => exact .inr rfl
          | true => exact .inl (VR2_sol (hρ p.2 (by simp only [Op.operands, List.mem_toArray, List.mem_map]; exact ⟨p, hp, rfl⟩)) hs)
        have hsolid : ∀ (ps : List (Nat × Operand)) (cs cs' : List AV), fillCells (E.ti t).flds ρ ps cs = some cs' → ∀ p ∈ ps, solid (ρ p.2) = true := by
          intro ps
          induction ps with
          | nil => intro cs cs' _ p hp; cases hp
          | cons q ps ih =>
            intro cs cs' hf p hp
            simp only [fillCells] at hf
            split at hf
            · split at hf
              · rename_i hc
                simp only [Bool.and_eq_true] at hc
                rcases List.mem_cons.1 hp with rfl | hp
                · exact hc.1.1
                · exact ih _ _ hf p hp
              · cases hf
            · cases hf
        obtain ⟨cells', hf, hA⟩ := build_ok (hE t) (ρc := ρc) p1 pl p3 parts.toList (E.ti t).zero z.cells cs (h6 hz F w g)
          (fun p hp => (hpx p hp).resolve_right (by rw [hsolid _ _ _ hcs p hp]; simp)) hcs
        refine hplain (s := Instr.build t (parts.map fun (i, x) => (i, ρc x))) (by simp only [execOp, hop]) ⟨_, .agg cells', h, ?_, cells', rfl, hA⟩
        have hpl : (parts.map fun (i, x) => (i, ρc x)).toList = parts.toList.map fun p => (p.1, ρc p.2) := by simp
        have hz0 : (zeroValue t).run P w = .ok z w := by simp [zeroValue, typeInfo, program, Sem.run_bind, Sem.run, h1, h5, Result.andThen]
        have hm := congrFun p2 w
        simp only [Instr.build, Sem.run_bind, hz0, Result.andThen, run_underlying p1, hm, hpl, hf]
        rfl
      · cases h
    · cases h
  | buildSlice t len parts =>
    rw [hop] at h hρ
    have hd : ∃ e, (E.ti t).d = .slice e := by
      simp only [opK] at h
      split at h
      · rename_i e he; exact ⟨e, he⟩
      · cases h
    obtain ⟨e, hd⟩ := hd
    obtain ⟨σ, H', y, w', F', g', a, b, c, d, e'⟩ := buildSlice_ok (ρc := ρc) (hE t) hd h (fun p hp => hρ p.2 (by simp only [Op.operands, List.mem_toArray, List.mem_map]; exact ⟨p, hp, rfl⟩)) hH hB
    have : execOp ρc o = (do pure (.value (← Instr.buildSlice t len (parts.map fun (i, x) => (i, ρc x))))) := by simp only [execOp, hop]
    rw [this]
    exact OpOk.mem b a c d e'
  | load t a =>
    rw [hop] at h hρ
    have ha := hρ a (by simp [Op.operands])
    simp only [opK] at h
    split at h
    · rename_i v hsm hv
      have hne : (E.ti t).size ≠ 1000000000 := by
        have : (E.ti t).size < 1000000000 := Nat.le_of_ble_eq_true hsm
        omega
      have ha0 : VR0 F w g (ρ a) (ρc a) := by
        generalize ρ a = q at ha hv
        cases q <;> first | exact ha | (simp [loadP] at hv)
      obtain ⟨b, off, us, hu, hl, hc, m1, m2⟩ := loadP_ok hv ha0 hH
      obtain ⟨i, z, h1, h2, h3, h4, h5, h6⟩ := (hE t).info hne
      obtain ⟨y, hr, hy⟩ := loadVar_ok h1 (by rw [h2, hl]) h4 hc m1 m2
      refine hplain (s := Instr.loadAt t (ρc a)) (by simp only [execOp, hop]) ⟨_, y, h, ?_, VR1_2 hy⟩
      rw [hu]
      simp only [Instr.loadAt, Instr.sureAddr, Sem.run_bind, Sem.run_pure, Result.andThen]
      exact hr
    · cases h
  | store t a x =>
    rw [hop] at h hρ
    have ha := hρ a (by simp [Op.operands])
    have hx := hρ x (by simp [Op.operands])
    simp only [opK] at h
    split at h
    · rename_i H' hsm hv
      have hne : (E.ti t).size ≠ 1000000000 := by
        have : (E.ti t).size < 1000000000 := Nat.le_of_ble_eq_true hsm
        omega
      have ha0 : VR0 F w g (ρ a) (ρc a) := by
        generalize ρ a = q at ha hv
        cases q <;> first | exact ha | (simp [storeP] at hv)
      have hx1 : VR1 F w g (ρ x) (ρc x) := by
        refine VR2_1 hx fun cs hcs => ?_
        rw [hcs] at hv
        generalize ρ a = q at hv
        cases q <;> simp [storeP, solid, solid0] at hv
        · split at hv <;> simp at hv
        · split at hv <;> simp at hv
      obtain ⟨i, z, h1, h2, h3, h4, h5, h6⟩ := (hE t).info hne
      obtain ⟨ad, w', F', hu, hr, hg, hH'⟩ := storeP_ok h1 h2 hv ha0 hx1 hH hB
      refine ⟨.top, H', undef, w', F', g, h, .inr ⟨?_, rfl⟩, trivial, hg, hH'⟩
      simp only [execOp, hop, hu, Instr.storeAt, Instr.sureAddr, Sem.run_bind, Sem.run_pure, Result.andThen, hr]
    · cases h
  | nilCheck x =>
    rw [hop] at h hρ
    have hx := hρ x (by simp [Op.operands])
    simp only [opK] at h
    split at h
    · rename_i hn
      exact ⟨ρ x, H, ρc x, w, F, g, h, .inl (nilChk_run hop hn hx), hx, Gr.refl .., hH⟩
    · cases h
  | binOp op t x y yt =>
    rw [hop] at h hρ
    have hx := hρ x (by simp [Op.operands])
    have hy := hρ y (by simp [Op.operands])
    simp only [opK] at h
    split at h
    · have hyc : ρc (.const (.slice none 0 0)) = .slice none 0 0 := hcst _
      have hnil : ∀ (eq : Bool), nilK (ρ x) eq (fun v => K v H) = some r → ∃ A n c b, ρc x = .slice A n c ∧ K (.bool b) H = some r ∧ b = (A.isNone == eq) := by
        intro eq hk
        unfold nilK at hk
        split at hk
        · rename_i n hn
          have hsl : ∃ A c, ρc x = .slice A n c ∧ (A = none → n = 0) := by
            cases hrx : ρ x with
            | sl te xs =>
              rw [hrx] at hn hx
              cases hn
              have hx : CR F w (.sl te) xs [ρc x] := hx
              simp only [CR] at hx
              obtain ⟨A, c, h1, _, h2⟩ := hx
              have h1 := List.head_eq_of_cons_eq h1
              refine ⟨A, c, h1, fun hA => ?_⟩
              cases xs with
              | nil => rfl
              | cons a b => obtain ⟨ad, hh, _⟩ := h2 0 a rfl; rw [hA] at hh; cases hh
            | emp => rw [hrx] at hn hx; cases hn; obtain ⟨A, h1⟩ := hx; exact ⟨A, 0, h1, fun _ => rfl⟩
            | all id s m =>
              rw [hrx] at hn hx
              cases hn
              obtain ⟨e, A, _, _, _, _, h1, h2, h3⟩ := hx
              refine ⟨A, _, h1, fun hA => ?_⟩
              rcases Nat.eq_zero_or_pos n with h0 | h0
              · exact h0
              · rw [h2 (by omega)] at hA; cases hA
            | own id s off m =>
              rw [hrx] at hn hx
              cases hn
              obtain ⟨e, A, _, q1, _, q2, h1, h2⟩ := hx
              refine ⟨A, _, h1, fun hA => ?_⟩
              rcases Nat.eq_zero_or_pos n with h0 | h0
              · exact h0
              · rw [h2 (by omega)] at hA; cases hA
            | _ => rw [hrx] at hn; cases hn
          obtain ⟨A, c, h1, h2⟩ := hsl
          cases hd : decide (n = 0) with
          | true =>
            rw [hd] at hk
            have hk : joinO (K (.bool true) H) (K (.bool false) H) = some r := hk
            unfold joinO at hk
            split at hk
            · rename_i he
              refine ⟨A, n, c, A.isNone == eq, h1, ?_, rfl⟩
              cases (A.isNone == eq) with
              | true => exact hk
              | false => rw [← he]; exact hk
            · cases hk
          | false =>
            rw [hd] at hk
            have hk : K (.bool !eq) H = some r := hk
            have hA : A.isNone = false := by
              cases A with
              | none => rw [decide_eq_false_iff_not] at hd; exact absurd (h2 rfl) hd
              | some a => rfl
            refine ⟨A, n, c, !eq, h1, hk, ?_⟩
            rw [hA]; cases eq <;> rfl
        · cases hk
      have fin : ∀ (eq : Bool), (op = if eq then .eql else .neq) → (∃ e, (E.ti t).d = .slice e) → nilK (ρ x) eq (fun v => K v H) = some r → OpOk B F g w ((execOp ρc o).run P w) (fun σ H' => K σ H' = some r) := by
        rintro eq hop2 ⟨e, hd⟩ hk
        obtain ⟨A, n, c, b, h1, h2, h3⟩ := hnil eq hk
        have hgd : (eqGuard op t x (.const (.slice none 0 0)) (ρc x) (ρc (.const (.slice none 0 0)))).run P w = .ok () w := by
          rw [hyc, h1, hop2]; cases eq <;> rfl
        have heq : (Op.equal t (.slice A n c) (.slice none 0 0)).run P w = .ok A.isNone w := by
          show (Op.equalIn (9999 + 1) t _ _).run P w = _
          rw [Op.equalIn]
          simp only [Sem.run_bind, run_underlying ((hE t).slice e hd), Result.andThen]
          cases A <;> rfl
        refine hplain (s := (do eqGuard op t x (.const (.slice none 0 0)) (ρc x) (ρc (.const (.slice none 0 0))); binOp op t (ρc x) (ρc (.const (.slice none 0 0))))) ?_ ⟨.bool b, .bool b, h2, ?_, rfl⟩
        · simp only [execOp, hop]
        · simp only [Sem.run_bind, hgd, Result.andThen]
          rw [hyc, h1, hop2]
          cases eq with
          | true => simp only [if_true, binOp, Sem.run_bind, heq, Result.andThen]; (try rw [h3]); (try (cases A <;> rfl))
          | false => simp only [Bool.false_eq_true, if_false, binOp, Sem.run_bind, heq, Result.andThen]; (try rw [h3]); (try (cases A <;> rfl))
      split at h
      · rename_i e hd; exact fin true rfl ⟨e, hd⟩ h
      · rename_i e hd; exact fin false rfl ⟨e, hd⟩ h
      · cases h
    obtain ⟨σ, z, h1, h2, h3⟩ := binOpK_ok (H := H) (B := B) (hE t) h hx hy
    have hguard : (eqGuard op t x y (ρc x) (ρc y)).run P w = .ok () w := by
      unfold eqGuard
      have : (∃ k n, ρc x = .int k n) ∨ (∃ s, ρc x = .string s) ∨ ∃ b, ρc x = .bool b := by
        generalize ρ x = p at h hx
        generalize ρ y = q at h hy
        cases p <;> first
          | exact .inl ⟨_, _, hx⟩
          | exact .inr (.inl ⟨_, hx⟩)
          | exact .inr (.inr ⟨_, hx⟩)
          | (cases q <;> simp [binOpK] at h)
      rcases this with ⟨k, n, e⟩ | ⟨s, e⟩ | ⟨b, e⟩ <;> rw [e] <;> cases op <;> rfl
    refine hplain (s := do eqGuard op t x y (ρc x) (ρc y); binOp op t (ρc x) (ρc y)) (by simp only [execOp, hop]) ⟨σ, z, h1, ?_, h3⟩
    simp only [Sem.run_bind, hguard, Result.andThen]
    exact h2
  | unOp op t x =>
    rw [hop] at h hρ
    have hx := hρ x (by simp [Op.operands])
    simp only [opK] at h
    split at h
    · rename_i b hb
      rw [hb] at hx
      have hx : ρc x = .bool b := hx
      refine hplain (s := Op.unary .not (ρc x)) (by simp only [execOp, hop]) ⟨_, _, h, ?_, rfl⟩
      rw [hx]; rfl
    · rename_i k n hb
      rw [hb] at hx
      have hx : ρc x = .int k n := hx
      refine hplain (s := Op.unary .neg (ρc x)) (by simp only [execOp, hop]) ⟨_, _, h, ?_, rfl⟩
      rw [hx]; rfl
    · cases h
  | convert s d x =>
    rw [hop] at h hρ
    have hx := hρ x (by simp [Op.operands])
    simp only [opK] at h
    exact hplain (s := convert s d (ρc x)) (by simp only [execOp, hop]) (convertK_ok hE h hx hH)
  | makeInterface t x =>
    rw [hop] at h hρ
    simp only [opK] at h
    have : ∃ d, P.underlying t = some d ∧ ∀ ms, d ≠ .interface ms := by
      split at h
      · rename_i hd; exact ⟨_, (hE t).str hd, fun _ h => by cases h⟩
      · rename_i hd; exact ⟨_, (hE t).int _ hd, fun _ h => by cases h⟩
      · rename_i hd; exact ⟨_, (hE t).bool hd, fun _ h => by cases h⟩
      · cases h
    have hK : K .top H = some r := by
      split at h <;> first | exact h | cases h
    obtain ⟨d, hd, hni⟩ := this
    refine hplain (s := Instr.makeInterface t (ρc x)) (by simp only [execOp, hop]) ⟨.top, .iface t (ρc x), hK, ?_, trivial⟩
    simp only [Instr.makeInterface, Sem.run_bind, run_underlying hd, Result.andThen]
    rfl
  | makeFunc fn first captured =>
    rw [hop] at h hρ
    simp only [opK] at h
    split at h
    · rename_i f hf0 hs
      have hf0 : first = #[] := Array.toList_eq_nil_iff.1 hf0
      subst hf0
      refine hplain (s := Instr.makeFunc (.func f) ((#[] : Array Operand).map ρc) (captured.map ρc)) (by simp only [execOp, hop]) ⟨_, _, h, rfl, ?_⟩
      have : All2 (VR0 F w g) (captured.toList.map ρ) (captured.toList.map ρc) := by
        have hρ' : ∀ y ∈ captured.toList, VR2 F w g (ρ y) (ρc y) := fun y hy => hρ y (by simp [Op.operands]; simpa using hy)
        generalize captured.toList = l at hs hρ'
        induction l with
        | nil => exact .nil
        | cons y l ih =>
          simp only [List.map_cons, List.all_cons, Bool.and_eq_true] at hs
          have hy := hρ' y (by simp)
          have h1 : VR1 F w g (ρ y) (ρc y) := VR2_1 hy fun cs hc => by rw [hc] at hs; cases hs.1
          exact .cons (solid0_low hs.1 h1) (ih hs.2 fun z hz => hρ' z (by simp [hz]))
      exact ⟨captured.map ρc, by simp, by simpa using this⟩
    · cases h
  | slice t x lo hi mx =>
    rw [hop] at h hρ
    have hx := hρ x (by simp [Op.operands])
    have hvo : ∀ y : Option Operand, (∀ z, y = some z → z ∈ (Op.slice t x lo hi mx).operands) → VO F w g (y.map ρ) (y.map ρc) := by
      intro y hy
      cases y with
      | none => trivial
      | some z => exact hρ z (hy z rfl)
    have hlo := hvo lo (by rintro z rfl; simp [Op.operands])
    have hhi := hvo hi (by rintro z rfl; simp [Op.operands])
    have hmx := hvo mx (by rintro z rfl; simp [Op.operands])
    simp only [opK] at h
    split at h
    · rename_i e hd
      obtain ⟨i, z, hi', hsz, hby, hsz2, hz, hzr⟩ := (hE t).elem e (.inl hd)
      rw [← hsz2] at h
      split at h
      · obtain ⟨σ, y, h1, h2, h3⟩ := sliceW_ok ((hE t).slice e hd) hi' h hx hlo hhi hH
        exact hplain (s := Instr.sliceAt t (ρc x) (lo.map ρc) (hi.map ρc) ((none : Option Operand).map ρc)) (by simp only [execOp, hop]) ⟨σ, y, h1, h2, h3⟩
      · rename_i m
        obtain ⟨σ, y, h1, h2, h3⟩ := sliceK_ok (mx := some (ρ (.const m))) (max := some (ρc (.const m))) ((hE t).slice e hd) hi' h hx hlo hhi hmx hH
        exact hplain (s := Instr.sliceAt t (ρc x) (lo.map ρc) (hi.map ρc) ((some (Operand.const m)).map ρc)) (by simp only [execOp, hop]) ⟨σ, y, h1, h2, h3⟩
      · rename_i m _
        obtain ⟨σ, y, h1, h2, h3⟩ := threeK_ok ((hE t).slice e hd) hi' h hx hlo hhi hmx
        exact hplain (s := Instr.sliceAt t (ρc x) (lo.map ρc) (hi.map ρc) ((some m).map ρc)) (by simp only [execOp, hop]) ⟨σ, y, h1, h2, h3⟩
    · rename_i hd
      split at h
      · rename_i s hs
        rw [hs] at hx
        have hx : ρc x = .string s := hx
        obtain ⟨σ, y, h1, h2, h3⟩ := strSlice_ok (P := P) (K := fun v => K v H) ((hE t).str hd) h hlo hhi
        refine hplain (s := Instr.sliceAt t (ρc x) (lo.map ρc) (hi.map ρc) ((none : Option Operand).map ρc)) (by simp only [execOp, hop]) ⟨σ, y, h1, ?_, h3⟩
        rw [hx]; exact h2
      · cases h
    · cases h
  | fieldAddr s x f =>
    rw [hop] at h hρ
    have hx := hρ x (by simp [Op.operands])
    simp only [opK] at h
    split at h
    · rename_i off size agg hf
      split at h
      · rename_i p hsz hp
        have hsz : 0 < size := Nat.le_of_ble_eq_true hsz
        obtain ⟨z, h1, h2⟩ := fieldPtr_ok (w := w) (hE s) hf (by omega) hp hx
        exact hplain (s := Instr.fieldAt s (ρc x) f) (by simp only [execOp, hop]) ⟨p, z, h, h1, h2⟩
      · cases h
    · cases h
  | field s x f =>
    rw [hop] at h hρ
    have hx := hρ x (by simp [Op.operands])
    simp only [opK] at h
    split at h
    · rename_i off size agg cs hf hc
      split at h
      · rename_i hchk
        simp only [Bool.and_eq_true] at hchk
        obtain ⟨hc1, hc2⟩ := hchk
        have hc2 := Nat.le_of_ble_eq_true hc2
        rw [hc] at hx
        obtain ⟨vs, hv, hall⟩ := hx
        obtain ⟨fs, fd, i, hu, hfd, hoff, hi, hs, hagg⟩ := (hE s).flds f off size agg hf
        have hlen := hall.length
        obtain ⟨h1, h2⟩ := take_drop_cells hall (j := off) (size := size) (by omega)
        obtain ⟨m1, m2⟩ := mkVal_ok h1 h2 hc1
        have hp : ∃ z, (part fd.type vs fd.offset).run P w = .ok z w ∧ VR1 F w g (mkVal agg ((cs.drop off).take size)) z := by
          cases agg with
          | true =>
            obtain ⟨cs', e1, e2⟩ := m1 rfl
            refine ⟨.agg (vs.extract off (off + size)), ?_, ?_⟩
            · simp only [part, Sem.run_bind, congrFun hagg w, Result.andThen, if_true, run_sizeOf hi, hoff, hs]
              rfl
            · rw [e1]
              refine ⟨_, rfl, ?_⟩
              rw [Array.toList_extract, List.extract_eq_take_drop, show off + size - off = size by omega]
              exact e2
          | false =>
            obtain ⟨z, e1, e2⟩ := m2 rfl
            refine ⟨z, ?_, VR2_1 (VR0_2 e2) fun cs h => by rw [h] at e2; exact e2⟩
            have hz : vs[off]? = some z := by
              have : ((vs.toList.drop off).take size)[0]? = some z := by rw [e1]; rfl
              have := (part_get this).2
              simpa using this
            simp only [part, Sem.run_bind, congrFun hagg w, Result.andThen, Bool.false_eq_true, if_false, hoff, hz]
            rfl
        obtain ⟨z, hz1, hz2⟩ := hp
        refine hplain (s := Instr.field s (ρc x) f) (by simp only [execOp, hop]) ⟨_, z, h, ?_, VR1_2 hz2⟩
        rw [hv]
        simp only [Instr.field, Sem.run_bind, run_underlying hu, Result.andThen, hfd, asAgg, Sem.run_pure]
        exact hz1
      · cases h
    · cases h
  | indexAddr t x i =>
    rw [hop] at h hρ
    have hx := hρ x (by simp [Op.operands])
    have hi := hρ i (by simp [Op.operands])
    simp only [opK] at h
    split at h
    · rename_i e k j hd hj
      rw [hj] at hi
      have hi : ρc i = .int k j := hi
      obtain ⟨inf, z, hi', hsz, hby, hsz2, hz, hzr⟩ := (hE t).elem e (.inl hd)
      rw [← hsz2] at h
      obtain ⟨σ, y, h1, h2, h3⟩ := idxK_ok (w := w) (k := k) ((hE t).slice e hd) hi' h hx
      refine hplain (s := Instr.indexAt t (ρc x) (ρc i)) (by simp only [execOp, hop]) ⟨σ, y, h1, ?_, h3⟩
      rw [hi]; exact h2
    · cases h
  | index t x i =>
    rw [hop] at h hρ
    have hx := hρ x (by simp [Op.operands])
    have hi := hρ i (by simp [Op.operands])
    simp only [opK] at h
    split at h
    · rename_i s k j hd hs hj
      rw [hs] at hx
      rw [hj] at hi
      have hx : ρc x = .string s := hx
      have hi : ρc i = .int k j := hi
      obtain ⟨h1, h2⟩ := cond_some h
      have h3 := of_decide_eq_true h1
      have hlt : j.toNat < s.size := by omega
      refine hplain (s := Instr.index t (ρc x) (ρc i)) (by simp only [execOp, hop]) ⟨_, _, h2, ?_, rfl⟩
      rw [hx, hi]
      have hget : s[j.toNat]? = some (s.data.toList.getD j.toNat 0) := by
        have hd' : j.toNat < s.data.size := hlt
        rw [List.getD, Array.getElem?_toList, Array.getElem?_eq_getElem hd']
        simp [getElem?_pos, hlt]
        rfl
      simp only [Instr.index, asIntOf, Sem.run_bind, Sem.run_pure, run_underlying ((hE t).str hd), Result.andThen, if_pos h3.1, hget]
      rfl
    · cases h
  | extract t i =>
    rw [hop] at h hρ
    have hx := hρ t (by simp [Op.operands])
    simp only [opK] at h
    split at h
    · rename_i vs hv
      split at h
      · rename_i v hvi
        rw [hv] at hx
        obtain ⟨ws, hw, hall⟩ := hx
        obtain ⟨z, hz, hzv⟩ := hall.get i v hvi
        refine hplain (s := Instr.extract (ρc t) i) (by simp only [execOp, hop]) ⟨v, z, h, ?_, VR1_2 hzv⟩
        rw [hw]
        have hz' : ws[i]? = some z := by simpa using hz
        simp only [Instr.extract, hz']
        rfl
      · cases h
    · cases h
  | makeSlice t l c =>
    rw [hop] at h hρ
    have hl := hρ l (by simp [Op.operands])
    have hc := hρ c (by simp [Op.operands])
    simp only [opK] at h
    split at h
    · rename_i e k lv k' cv hd h1 h2
      rw [h1] at hl
      rw [h2] at hc
      have hl : ρc l = .int k lv := hl
      have hc : ρc c = .int k' cv := hc
      obtain ⟨h3, h4⟩ := cond_some h
      have h5 := of_decide_eq_true h3
      obtain ⟨w', g', y, hr, a, b, q⟩ := makeSlice_ok (k := k) (k' := k') (hE t) hd h5.1 h5.2.1 h5.2.2 hH hB
      have : execOp ρc o = (do pure (.value (← Instr.makeSlice t (ρc l) (ρc c)))) := by simp only [execOp, hop]
      rw [this, hl, hc]
      exact OpOk.mem hr h4 (VR0_2 q) a b
    · cases h
  | _ => rw [hop] at h; simp [opK] at h
end
end Go.Proofs.YtjklgmflillagaaDoor.Ev
