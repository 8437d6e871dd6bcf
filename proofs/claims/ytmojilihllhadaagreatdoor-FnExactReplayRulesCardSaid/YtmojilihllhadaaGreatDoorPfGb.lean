/- PfMg, PfFl, PfNormal, PfNormalText. -/
import Derived.Test.YtmojilihllhadaaGreatDoorPfGa
set_option linter.unusedVariables false
set_option linter.unusedSimpArgs false
namespace Go.Proofs.YtmojilihllhadaaGreatDoor.Ev
open Go
theorem lns_ne : ∀ (l cur : List UInt8), ∀ x ∈ lns cur l, x ≠ []
  | [], cur, x, hx => by
    cases cur with
    | nil => simp [lns] at hx
    | cons a t => simp [lns] at hx; subst hx; simp
  | b :: r, cur, x, hx => by
    rw [lns_cons] at hx
    cases hb : b == 10 with
    | false => rw [hb] at hx; exact lns_ne r _ x hx
    | true =>
      rw [hb] at hx
      rcases List.mem_cons.1 hx with rfl | hx
      · simp
      · exact lns_ne r _ x hx
def fl (l : List ByteArray) : List UInt8 := (l.map (·.data.toList)).flatten
theorem fl_len (l : List ByteArray) : (fl l).length = tot l := by
  unfold fl tot
  rw [List.length_flatten, List.map_map]
  congr 1
theorem tot_lines (s : ByteArray) : tot (linesL s) = s.size := by
  have h1 : fl (linesL s) = s.data.toList := by
    unfold fl linesL
    rw [List.map_map]
    have : ∀ (l cur : List UInt8), ((lns cur l).map ((·.data.toList) ∘ ba)).flatten = cur ++ l := by
      intro l
      induction l with
      | nil => intro cur; cases cur <;> simp [lns, ba]
      | cons b r ih =>
        intro cur
        rw [lns_cons]
        cases hb : (b == 10) with
        | true =>
          show (((cur ++ [b]) :: lns [] r).map _).flatten = _
          rw [List.map_cons, List.flatten_cons, ih []]
          simp [ba]
        | false =>
          show ((lns (cur ++ [b]) r).map _).flatten = _
          rw [ih]; simp
    exact this _ []
  rw [← fl_len, h1]
  exact (Go.Lib.size_eq s).symm
theorem lines_len (s : ByteArray) : (linesL s).length ≤ s.size := by
  have key : ∀ (l cur : List UInt8), (lns cur l).length ≤ cur.length + l.length := by
    intro l
    induction l with
    | nil => intro cur; cases cur <;> simp [lns]
    | cons b r ih =>
      intro cur
      rw [lns_cons]
      cases hb : (b == 10) with
      | true =>
        have := ih []
        show ((cur ++ [b]) :: lns [] r).length ≤ _
        simp only [List.length_cons, List.length_nil] at this ⊢
        omega
      | false =>
        have := ih (cur ++ [b])
        show (lns (cur ++ [b]) r).length ≤ _
        simp only [List.length_append, List.length_cons, List.length_nil] at this ⊢
        omega
  have := key s.data.toList []
  unfold linesL
  rw [List.length_map, Go.Lib.size_eq s]
  simpa using this
theorem lines_ne (s : ByteArray) : ∀ x ∈ linesL s, (x : ByteArray).size ≠ 0 := by
  intro x hx
  unfold linesL at hx
  obtain ⟨y, hy, rfl⟩ := List.mem_map.1 hx
  have := lns_ne _ _ y hy
  rw [ba_size]
  intro e
  exact this (List.length_eq_zero_iff.1 e)
/-! #### lines joined -/
theorem joinB_fl (l : List ByteArray) : joinB l noS = ba (fl l) := by
  unfold joinB fl
  show ba (Go.Lib.join _ []) = _
  congr 1
  cases l with
  | nil => rfl
  | cons x r =>
    rw [List.map_cons, Go.Lib.join_cons]
    unfold Go.Lib.joinTail
    rw [List.map_map]
    rfl
theorem spec_join_loop (l : List ByteArray) (hl : l.length ≤ 50000) (ht : tot l ≤ 1000000) : ∀ (k i : Nat) (T : List UInt8), i + k = l.length → T.length + tot (l.drop i) ≤ 2000000 → spec_l1Join_L3.s l (ba T) i = some (ba (T ++ fl (l.drop i)))
  | 0, i, T, h, hT => by
    rw [spec_l1Join_L3.e, if_neg (by omega), List.drop_eq_nil_of_le (by omega)]
    simp [fl]
  | k + 1, i, T, h, hT => by
    have hi : i < l.length := by omega
    have hd := List.drop_eq_getElem_cons hi
    have htd : tot (l.drop i) = l[i].size + tot (l.drop (i + 1)) := by rw [hd]; rfl
    have hsz : l[i].size = l[i].data.toList.length := Go.Lib.size_eq _
    have e1 : ba T ++ l[i] = ba (T ++ l[i].data.toList) := by
      conv => lhs; rw [← ba_self l[i]]
      rw [ba_append]
    rw [spec_l1Join_L3.e, if_pos (by omega), if_pos (by omega), Int.toNat_natCast, nthS hi, if_pos (by rw [ba_size]; omega), wrap_succ (by omega), e1, spec_join_loop l hl ht k (i + 1) _ (by omega) (by rw [List.length_append]; omega)]
    have : fl (l.drop i) = l[i].data.toList ++ fl (l.drop (i + 1)) := by rw [hd]; rfl
    rw [this, List.append_assoc]
theorem spec_join (l : List ByteArray) (hl : l.length ≤ 50000) (ht : tot l ≤ 1000000) : spec_l1Join.s l = some (ba (fl l)) := by
  rw [spec_l1Join.e]
  have := spec_join_loop l hl ht l.length 0 [] (by omega) (by simp; omega)
  rw [List.drop_zero, List.nil_append] at this
  exact this
/-! #### numbers -/
def dec (k : Nat) : List UInt8 := Go.Lib.decDigits k
theorem dec_len {k : Nat} (h : k < 1000000) : (dec k).length ≤ k + 1 := (digits_all k h).2
theorem spec_num {k : Nat} (h : k < 1000000) : spec_l13Number.s (k : Int) = some (ba (32 :: dec k)) := by
  have := dec_len h
  rw [spec_l13Number.e, (digits_all k h).1, Option.bind_some, if_pos (by rw [sp_sz, ba_size]; unfold dec at this; omega), show ByteArray.mk #[(32 : UInt8)] = ba [32] from rfl, ba_append]
  rfl
theorem impl_num (x : List UInt8) (h : x.length < 1000000) : impl_size.s (ba x) = some (ba (dec x.length)) := by
  rw [impl_size.e, ba_size, impl_decimal.e, if_pos (by omega), decB_nat]
  rfl
/-! #### the text of a chunk -/
def secE (x : List UInt8) : List UInt8 := [61, 32] ++ dec x.length ++ [10] ++ x
def secC (x o y : List UInt8) : List UInt8 := [33, 32] ++ dec x.length ++ [32] ++ dec o.length ++ [32] ++ dec y.length ++ [10] ++ x ++ o ++ y
@[reducible] def knd (c : T_Chunk.den) : Int := c.1
def cB (c : T_Chunk.den) : List UInt8 := fl c.2.1
def cO (c : T_Chunk.den) : List UInt8 := fl c.2.2.1
def cT (c : T_Chunk.den) : List UInt8 := fl c.2.2.2.1
def secT (c : T_Chunk.den) : List UInt8 := if knd c = 4 then (if cmp (ba (cT c)) (ba (cO c)) < 0 then secC (cT c) (cB c) (cO c) else secC (cO c) (cB c) (cT c)) else if knd c = 2 then secE (cT c) else secE (cO c)
theorem secE_len {x : List UInt8} (h : x.length ≤ 2000) : (secE x).length ≤ 12100 := by
  have := dec_len (k := x.length) (by omega)
  unfold secE
  simp only [List.length_append, List.length_cons, List.length_nil]
  omega
theorem secC_len {x o y : List UInt8} (h1 : x.length ≤ 2000) (h2 : o.length ≤ 2000) (h3 : y.length ≤ 2000) : (secC x o y).length ≤ 12100 := by
  have := dec_len (k := x.length) (by omega)
  have := dec_len (k := o.length) (by omega)
  have := dec_len (k := y.length) (by omega)
  unfold secC
  simp only [List.length_append, List.length_cons, List.length_nil]
  omega
theorem small_len {c : T_Chunk.den} (h : SmallC 2000 c) : (cB c).length ≤ 2000 ∧ (cO c).length ≤ 2000 ∧ (cT c).length ≤ 2000 := by
  unfold cB cO cT
  rw [fl_len, fl_len, fl_len]
  exact ⟨h.b1, h.o1, h.t1⟩
theorem secT_len {c : T_Chunk.den} (h : SmallC 2000 c) : (secT c).length ≤ 12100 := by
  obtain ⟨h1, h2, h3⟩ := small_len h
  unfold secT
  split
  · split
    · exact secC_len h3 h1 h2
    · exact secC_len h2 h1 h3
  · split
    · exact secE_len h3
    · exact secE_len h2
theorem secT_ne (c : T_Chunk.den) : secT c ≠ [] := by
  unfold secT
  split
  · split <;> (unfold secC; simp)
  · split <;> (unfold secE; simp)
theorem le_iff (x y : List UInt8) : (BLt (ba x) (ba y) ∨ ba x = ba y) ↔ ¬ cmp (ba y) (ba x) < 0 := by
  constructor
  · rintro (h | h) k
    · rw [blt_iff] at h
      have := cmp_trans h k
      rw [cmp_self] at this
      omega
    · rw [h, cmp_self] at k; omega
  · intro h
    exact Classical.byContradiction fun k => h (not_le k)
theorem less_iff (x y : List UInt8) : (Op.bytesLess (ba y).toList (ba x).toList = true) ↔ cmp (ba y) (ba x) < 0 := by
  rw [← blt_iff]
  unfold BLt
  rw [ba_toList, ba_toList]
  rfl
theorem b61 : ByteArray.mk #[(61 : UInt8)] = ba [61] := rfl
theorem b33 : ByteArray.mk #[(33 : UInt8)] = ba [33] := rfl
theorem b10 : ByteArray.mk #[(10 : UInt8)] = ba [10] := rfl
theorem b32 : ByteArray.mk #[(32 : UInt8)] = ba [32] := rfl
theorem b6132 : ByteArray.mk #[(61 : UInt8), (32 : UInt8)] = ba [61, 32] := rfl
theorem b3332 : ByteArray.mk #[(33 : UInt8), (32 : UInt8)] = ba [33, 32] := rfl
set_option maxHeartbeats 1600000 in
theorem spec_sec (l : List T_Chunk.den) (hl : l.length ≤ 200000) (i : Nat) (hi : i < l.length) (hc : SmallC 2000 l[i]) (T : List UInt8) (cl : Bool) (hT : T.length ≤ 2500000000) :
    spec_l13Normal_L5.s l (ba T) cl i = spec_l13Normal_L5.s l (ba (T ++ secT l[i])) (cl || decide (knd l[i] = 4)) ((i + 1 : Nat) : Int) := by
  have c1 : ((i : Nat) : Int) < (l.length : Int) := by omega
  have c2 : 0 ≤ ((i : Nat) : Int) ∧ ((i : Nat) : Int) < (l.length : Int) := by omega
  obtain ⟨h1, h2, h3⟩ := small_len hc
  have j1 : spec_l1Join.s (l[i] : T_Chunk.den).2.1 = some (ba (cB l[i])) := spec_join _ hc.b2 (by have := hc.b1; omega)
  have j2 : spec_l1Join.s (l[i] : T_Chunk.den).2.2.1 = some (ba (cO l[i])) := spec_join _ hc.o2 (by have := hc.o1; omega)
  have j3 : spec_l1Join.s (l[i] : T_Chunk.den).2.2.2.1 = some (ba (cT l[i])) := spec_join _ hc.t2 (by have := hc.t1; omega)
  have d1 := dec_len (k := (cB l[i]).length) (by omega)
  have d2 := dec_len (k := (cO l[i]).length) (by omega)
  have d3 := dec_len (k := (cT l[i]).length) (by omega)
  have n1 := spec_num (k := (cB l[i]).length) (by omega)
  have n2 := spec_num (k := (cO l[i]).length) (by omega)
  have n3 := spec_num (k := (cT l[i]).length) (by omega)
  conv => lhs; rw [spec_l13Normal_L5.e, if_pos c1, if_pos c2]
  simp only [Int.toNat_natCast, nth_at (t := T_Chunk) hi, j1, j2, j3, Option.bind_some, wrap_succ (show i < 4611686018427387904 by omega)]
  unfold secT
  by_cases hk : knd l[i] = 4
  · rw [if_pos hk, if_pos hk, decide_eq_true hk, Bool.or_true]
    by_cases hle : cmp (ba (cT l[i])) (ba (cO l[i])) < 0
    · rw [if_neg (fun e => (le_iff _ _).1 e hle), if_pos hle]
      simp only [ba_size, n1, n2, n3, Option.bind_some, b33, b10, ba_append, List.length_append, List.length_cons, List.length_nil]
      rw [if_pos (by omega), if_pos (by omega), if_pos (by omega), if_pos (by omega), if_pos (by omega), if_pos (by omega), if_pos (by omega), if_pos (by omega)]
      congr 2
      unfold secC
      simp
    · rw [if_pos ((le_iff _ _).2 hle), if_neg hle]
      simp only [ba_size, n1, n2, n3, Option.bind_some, b33, b10, ba_append, List.length_append, List.length_cons, List.length_nil]
      rw [if_pos (by omega), if_pos (by omega), if_pos (by omega), if_pos (by omega), if_pos (by omega), if_pos (by omega), if_pos (by omega), if_pos (by omega)]
      congr 2
      unfold secC
      simp
  · rw [if_neg hk, if_neg hk, decide_eq_false hk, Bool.or_false]
    by_cases hk2 : knd l[i] = 2
    · rw [if_pos hk2, if_pos hk2]
      simp only [ba_size, n1, n2, n3, Option.bind_some, b61, b10, ba_append, List.length_append, List.length_cons, List.length_nil]
      rw [if_pos (by omega), if_pos (by omega), if_pos (by omega), if_pos (by omega)]
      congr 2
      unfold secE
      simp
    · rw [if_neg hk2, if_neg hk2]
      simp only [ba_size, n1, n2, n3, Option.bind_some, b61, b10, ba_append, List.length_append, List.length_cons, List.length_nil]
      rw [if_pos (by omega), if_pos (by omega), if_pos (by omega), if_pos (by omega)]
      congr 2
      unfold secE
      simp
set_option maxHeartbeats 1600000 in
theorem impl_sec1 (l : List T_Chunk.den) (hl : l.length ≤ 200000) (i : Nat) (hi : i < l.length) (hc : SmallC 2000 l[i]) (T : List UInt8) (cl : Bool) (hT : T.length ≤ 2500000000) :
    impl_NormalText_L6v1.s cl l l.length i 0 noS (strBytes (ba T)).length (strBytes (ba T)) = impl_NormalText_L6v1.s (cl || decide (knd l[i] = 4)) l l.length ((i + 1 : Nat) : Int) 0 noS (strBytes (ba (T ++ secT l[i]))).length (strBytes (ba (T ++ secT l[i]))) := by
  have c1 : ((i : Nat) : Int) < (l.length : Int) := by omega
  have c2 : 0 ≤ ((i : Nat) : Int) ∧ ((i : Nat) : Int) < (l.length : Int) := by omega
  obtain ⟨h1, h2, h3⟩ := small_len hc
  have j1 : joinB (l[i] : T_Chunk.den).2.1 noS = ba (cB l[i]) := joinB_fl _
  have j2 : joinB (l[i] : T_Chunk.den).2.2.1 noS = ba (cO l[i]) := joinB_fl _
  have j3 : joinB (l[i] : T_Chunk.den).2.2.2.1 noS = ba (cT l[i]) := joinB_fl _
  have k1 : ((l[i] : T_Chunk.den).2.1 : List ByteArray).length ≤ (140737488355328 : Nat) ∧ (cB l[i]).length ≤ (140737488355328 : Nat) := ⟨by have := hc.b2; omega, by omega⟩
  have k2 : ((l[i] : T_Chunk.den).2.2.1 : List ByteArray).length ≤ (140737488355328 : Nat) ∧ (cO l[i]).length ≤ (140737488355328 : Nat) := ⟨by have := hc.o2; omega, by omega⟩
  have k3 : ((l[i] : T_Chunk.den).2.2.2.1 : List ByteArray).length ≤ (140737488355328 : Nat) ∧ (cT l[i]).length ≤ (140737488355328 : Nat) := ⟨by have := hc.t2; omega, by omega⟩
  have d1 := dec_len (k := (cB l[i]).length) (by omega)
  have d2 := dec_len (k := (cO l[i]).length) (by omega)
  have d3 := dec_len (k := (cT l[i]).length) (by omega)
  have n1 := impl_num (cB l[i]) (by omega)
  have n2 := impl_num (cO l[i]) (by omega)
  have n3 := impl_num (cT l[i]) (by omega)
  conv => lhs; rw [impl_NormalText_L6v1.e, if_pos c1, if_pos c2]
  simp only [Int.toNat_natCast, nth_at (t := T_Chunk) hi, j1, j2, j3, ba_size, wrap_succ (show i < 4611686018427387904 by omega)]
  rw [if_pos k2, if_pos k1, if_pos k3]
  unfold secT
  by_cases hk : knd l[i] = 4
  · rw [if_pos hk, if_pos hk, decide_eq_true hk, Bool.or_true]
    by_cases hle : cmp (ba (cT l[i])) (ba (cO l[i])) < 0
    · rw [if_pos ((less_iff _ _).2 hle), if_pos hle]
      simp only [n1, n2, n3, Option.bind_some, b3332, b32, b10, ba_append, ba_size, strBytes_app, strBytes_length, List.length_append, List.length_cons, List.length_nil]
      rw [if_pos (by omega), if_pos (by omega), if_pos (by omega), if_pos (by omega), if_pos (by omega), if_pos (by omega), if_pos (by omega), if_pos (by omega), if_pos (by omega), if_pos (by omega)]
      unfold secC
      congr 1
      all_goals (try simp only [List.length_append, List.length_cons, List.length_nil])
      all_goals (try omega)
      all_goals simp
    · rw [if_neg (fun e => hle ((less_iff _ _).1 e)), if_neg hle]
      simp only [n1, n2, n3, Option.bind_some, b3332, b32, b10, ba_append, ba_size, strBytes_app, strBytes_length, List.length_append, List.length_cons, List.length_nil]
      rw [if_pos (by omega), if_pos (by omega), if_pos (by omega), if_pos (by omega), if_pos (by omega), if_pos (by omega), if_pos (by omega), if_pos (by omega), if_pos (by omega), if_pos (by omega)]
      unfold secC
      congr 1
      all_goals (try simp only [List.length_append, List.length_cons, List.length_nil])
      all_goals (try omega)
      all_goals simp
  · rw [if_neg hk, if_neg hk, decide_eq_false hk, Bool.or_false]
    by_cases hk2 : knd l[i] = 2
    · rw [if_pos hk2, if_pos hk2]
      simp only [n1, n2, n3, Option.bind_some, b6132, b10, ba_append, ba_size, strBytes_app, strBytes_length, List.length_append, List.length_cons, List.length_nil]
      rw [if_pos (by omega), if_pos (by omega), if_pos (by omega), if_pos (by omega)]
      unfold secE
      congr 1
      all_goals (try simp only [List.length_append, List.length_cons, List.length_nil])
      all_goals (try omega)
      all_goals simp
    · rw [if_neg hk2, if_neg hk2]
      simp only [n1, n2, n3, Option.bind_some, b6132, b10, ba_append, ba_size, strBytes_app, strBytes_length, List.length_append, List.length_cons, List.length_nil]
      rw [if_pos (by omega), if_pos (by omega), if_pos (by omega), if_pos (by omega)]
      unfold secE
      congr 1
      all_goals (try simp only [List.length_append, List.length_cons, List.length_nil])
      all_goals (try omega)
      all_goals simp
set_option maxHeartbeats 1600000 in
theorem impl_sec0 (l : List T_Chunk.den) (hl : l.length ≤ 200000) (hi : 0 < l.length) (hc : SmallC 2000 l[0]) :
    impl_NormalText_L6.s false l l.length 0 0 noS = impl_NormalText_L6v1.s (decide (knd l[0] = 4)) l l.length ((1 : Nat) : Int) 0 noS (strBytes (ba (secT l[0]))).length (strBytes (ba (secT l[0]))) := by
  have c1 : (0 : Int) < (l.length : Int) := by omega
  have c2 : 0 ≤ (0 : Int) ∧ (0 : Int) < (l.length : Int) := by omega
  have w1 : IntKind.i64.wrap ((0 : Int) + 1) = ((1 : Nat) : Int) := by decide
  obtain ⟨h1, h2, h3⟩ := small_len hc
  have j1 : joinB (l[0] : T_Chunk.den).2.1 noS = ba (cB l[0]) := joinB_fl _
  have j2 : joinB (l[0] : T_Chunk.den).2.2.1 noS = ba (cO l[0]) := joinB_fl _
  have j3 : joinB (l[0] : T_Chunk.den).2.2.2.1 noS = ba (cT l[0]) := joinB_fl _
  have k1 : ((l[0] : T_Chunk.den).2.1 : List ByteArray).length ≤ (140737488355328 : Nat) ∧ (cB l[0]).length ≤ (140737488355328 : Nat) := ⟨by have := hc.b2; omega, by omega⟩
  have k2 : ((l[0] : T_Chunk.den).2.2.1 : List ByteArray).length ≤ (140737488355328 : Nat) ∧ (cO l[0]).length ≤ (140737488355328 : Nat) := ⟨by have := hc.o2; omega, by omega⟩
  have k3 : ((l[0] : T_Chunk.den).2.2.2.1 : List ByteArray).length ≤ (140737488355328 : Nat) ∧ (cT l[0]).length ≤ (140737488355328 : Nat) := ⟨by have := hc.t2; omega, by omega⟩
  have d1 := dec_len (k := (cB l[0]).length) (by omega)
  have d2 := dec_len (k := (cO l[0]).length) (by omega)
  have d3 := dec_len (k := (cT l[0]).length) (by omega)
  have n1 := impl_num (cB l[0]) (by omega)
  have n2 := impl_num (cO l[0]) (by omega)
  have n3 := impl_num (cT l[0]) (by omega)
  have n0 : nth T_Chunk l (Int.toNat (0 : Int)) = l[0] := nth_at (t := T_Chunk) hi
  conv => lhs; rw [impl_NormalText_L6.e, if_pos c1, if_pos c2]
  simp only [n0, j1, j2, j3, ba_size, w1]
  rw [if_pos k2, if_pos k1, if_pos k3]
  unfold secT
  by_cases hk : knd l[0] = 4
  · rw [if_pos hk, if_pos hk, decide_eq_true hk]
    by_cases hle : cmp (ba (cT l[0])) (ba (cO l[0])) < 0
    · rw [if_pos ((less_iff _ _).2 hle), if_pos hle]
      simp only [n1, n2, n3, Option.bind_some, b3332, b32, b10, ba_append, ba_size, strBytes_app, strBytes_length, List.length_append, List.length_cons, List.length_nil]
      rw [if_pos (by omega), if_pos (by omega), if_pos (by omega), if_pos (by omega), if_pos (by omega), if_pos (by omega), if_pos (by omega), if_pos (by omega), if_pos (by omega), if_pos (by omega)]
      unfold secC
      congr 1
      all_goals (try simp only [List.length_append, List.length_cons, List.length_nil])
      all_goals (try omega)
      all_goals simp
    · rw [if_neg (fun e => hle ((less_iff _ _).1 e)), if_neg hle]
      simp only [n1, n2, n3, Option.bind_some, b3332, b32, b10, ba_append, ba_size, strBytes_app, strBytes_length, List.length_append, List.length_cons, List.length_nil]
      rw [if_pos (by omega), if_pos (by omega), if_pos (by omega), if_pos (by omega), if_pos (by omega), if_pos (by omega), if_pos (by omega), if_pos (by omega), if_pos (by omega), if_pos (by omega)]
      unfold secC
      congr 1
      all_goals (try simp only [List.length_append, List.length_cons, List.length_nil])
      all_goals (try omega)
      all_goals simp
  · rw [if_neg hk, if_neg hk, decide_eq_false hk]
    by_cases hk2 : knd l[0] = 2
    · rw [if_pos hk2, if_pos hk2]
      simp only [n1, n2, n3, Option.bind_some, b6132, b10, ba_append, ba_size, strBytes_app, strBytes_length, List.length_append, List.length_cons, List.length_nil]
      rw [if_pos (by omega), if_pos (by omega), if_pos (by omega), if_pos (by omega)]
      unfold secE
      congr 1
      all_goals (try simp only [List.length_append, List.length_cons, List.length_nil])
      all_goals (try omega)
      all_goals simp
    · rw [if_neg hk2, if_neg hk2]
      simp only [n1, n2, n3, Option.bind_some, b6132, b10, ba_append, ba_size, strBytes_app, strBytes_length, List.length_append, List.length_cons, List.length_nil]
      rw [if_pos (by omega), if_pos (by omega), if_pos (by omega), if_pos (by omega)]
      unfold secE
      congr 1
      all_goals (try simp only [List.length_append, List.length_cons, List.length_nil])
      all_goals (try omega)
      all_goals simp
def secs (l : List T_Chunk.den) : List UInt8 := (l.map secT).flatten
def anyC (l : List T_Chunk.den) : Bool := l.any fun c => decide (knd c = 4)
theorem secs_drop (l : List T_Chunk.den) {i : Nat} (h : i < l.length) : secs (l.drop i) = secT l[i] ++ secs (l.drop (i + 1)) := by rw [List.drop_eq_getElem_cons h]; rfl
theorem anyC_drop (l : List T_Chunk.den) {i : Nat} (h : i < l.length) : anyC (l.drop i) = (decide (knd l[i] = 4) || anyC (l.drop (i + 1))) := by rw [List.drop_eq_getElem_cons h]; rfl
theorem spec_secs (l : List T_Chunk.den) (hl : l.length ≤ 200000) (hs : ∀ c ∈ l, SmallC 2000 c) : ∀ (k i : Nat) (T : List UInt8) (cl : Bool), i + k = l.length → T.length ≤ i * 12100 →
    spec_l13Normal_L5.s l (ba T) cl i = some (ba (T ++ secs (l.drop i)), cl || anyC (l.drop i))
  | 0, i, T, cl, h, hT => by
    rw [spec_l13Normal_L5.e, if_neg (by omega), List.drop_eq_nil_of_le (by omega)]
    simp [secs, anyC]
  | k + 1, i, T, cl, h, hT => by
    have hi : i < l.length := by omega
    have hc := hs _ (List.getElem_mem hi)
    have h2 := secT_len hc
    rw [spec_sec l hl i hi hc T cl (by omega), spec_secs l hl hs k (i + 1) _ _ (by omega) (by rw [List.length_append]; omega), secs_drop l hi, anyC_drop l hi, List.append_assoc, Bool.or_assoc]
def ansN (b : Bool) (T : List UInt8) : T_TextResult.den := if b = true then ((0 : Int), ba T, ()) else ((4 : Int), noS, ())
theorem impl_secs (l : List T_Chunk.den) (hl : l.length ≤ 200000) (hs : ∀ c ∈ l, SmallC 2000 c) : ∀ (k i : Nat) (T : List UInt8) (cl : Bool), i + k = l.length → T ≠ [] → T.length ≤ i * 12100 →
    impl_NormalText_L6v1.s cl l l.length i 0 noS (strBytes (ba T)).length (strBytes (ba T)) = some (ansN (cl || anyC (l.drop i)) (T ++ secs (l.drop i)))
  | 0, i, T, cl, h, hn, hT => by
    have hpos := List.length_pos_iff.2 hn
    have e1 : secs (l.drop i) = [] := by rw [List.drop_eq_nil_of_le (by omega)]; rfl
    have e2 : anyC (l.drop i) = false := by rw [List.drop_eq_nil_of_le (by omega)]; rfl
    rw [impl_NormalText_L6v1.e, if_neg (by omega), e1, e2, List.append_nil, Bool.or_false, strBytes_length]
    unfold ansN
    cases cl with
    | true => rw [if_pos rfl, if_pos rfl, if_pos hpos, if_pos ⟨rfl, hpos, by omega⟩, bytesStr_back]
    | false => rw [if_neg (fun e => by cases e), if_neg (fun e => by cases e)]
  | k + 1, i, T, cl, h, hn, hT => by
    have hi : i < l.length := by omega
    have hc := hs _ (List.getElem_mem hi)
    have h2 := secT_len hc
    rw [impl_sec1 l hl i hi hc T cl (by omega), impl_secs l hl hs k (i + 1) _ _ (by omega) (by simp [hn]) (by rw [List.length_append]; omega), secs_drop l hi, anyC_drop l hi, List.append_assoc, Bool.or_assoc]
theorem impl_secs0 (l : List T_Chunk.den) (hl : l.length ≤ 200000) (hs : ∀ c ∈ l, SmallC 2000 c) : impl_NormalText_L6.s false l l.length 0 0 noS = some (ansN (anyC l) (secs l)) := by
  by_cases h : 0 < l.length
  · have hc := hs _ (List.getElem_mem h)
    have h2 := secT_len hc
    have h3 := secs_drop l h
    have h4 := anyC_drop l h
    rw [List.drop_zero] at h3 h4
    rw [impl_sec0 l hl h hc, impl_secs l hl hs (l.length - 1) 1 _ _ (by omega) (secT_ne _) (by omega), h3, h4]
  · have hl0 : l = [] := List.length_eq_zero_iff.1 (by omega)
    subst hl0
    rw [impl_NormalText_L6.e, if_neg (by simp), if_neg (fun e => by cases e)]
    rfl
theorem normal_all (a b c : ByteArray) : ∃ r : T_TextResult.den, spec_NormalText.s a b c = some r ∧ impl_NormalText.s a b c = some r := by
  rw [spec_NormalText.e, impl_NormalText.e, spec_l4Texts.e]
  simp only [spec_tf, impl_tf, Option.bind_some]
  have hf : impl_firstCode.s (fillElems [((0 : Nat), tf a), ((1 : Nat), tf b), ((2 : Nat), tf c)] (List.replicate (3 : Nat) (0 : Int))) = some (fc [tf a, tf b, tf c]) := firstCode_s [tf a, tf b, tf c] (by simp)
  rw [hf, Option.bind_some]
  by_cases ha : tf a = 0
  rotate_left
  · have e : fc [tf a, tf b, tf c] = tf a := by rw [fc_cons, if_neg ha]
    rw [e, if_neg ha, Option.bind_some, if_neg ha, if_neg ha]
    exact ⟨_, rfl, rfl⟩
  by_cases hb : tf b = 0
  rotate_left
  · have e : fc [tf a, tf b, tf c] = tf b := by rw [fc_cons, if_pos ha, fc_cons, if_neg hb]
    rw [e, if_pos ha, if_neg hb, Option.bind_some, if_neg hb, if_neg hb]
    exact ⟨_, rfl, rfl⟩
  by_cases hc : tf c = 0
  rotate_left
  · have e : fc [tf a, tf b, tf c] = tf c := by rw [fc_cons, if_pos ha, fc_cons, if_pos hb, fc_cons, if_neg hc]
    rw [e, if_pos ha, if_pos hb, Option.bind_some, if_neg hc, if_neg hc]
    exact ⟨_, rfl, rfl⟩
  have e : fc [tf a, tf b, tf c] = 0 := by rw [fc_cons, if_pos ha, fc_cons, if_pos hb, fc_cons, if_pos hc]; rfl
  have za := tf_size ha
  have zb := tf_size hb
  have zc := tf_size hc
  have la := lines_len a
  have lb := lines_len b
  have lc := lines_len c
  obtain ⟨r, r1, r2, r3, r4⟩ := chunks_both (nb := 2000) (base := linesL a) (ours := linesL b) (theirs := linesL c) (by omega) (by omega) (by omega) ⟨by rw [tot_lines]; omega, lines_ne a⟩ ⟨by rw [tot_lines]; omega, lines_ne b⟩ ⟨by rw [tot_lines]; omega, lines_ne c⟩
  have i1 := impl_secs0 r (by omega) r4
  have s1 := spec_secs r (by omega) r4 r.length 0 [] false (by omega) (by simp)
  rw [List.drop_zero, List.nil_append, Bool.false_or] at s1
  have s1 : spec_l13Normal_L5.s r noS false (0 : Int) = _ := s1
  rw [e, if_pos ha, if_pos hb, Option.bind_some, if_pos hc, if_pos rfl, spec_l13Normal.e, spec_split a (by omega), spec_split b (by omega), spec_split c (by omega), impl_lines a (by omega), impl_lines b (by omega), impl_lines c (by omega)]
  simp only [Option.bind_some, r1, r2, s1, i1]
  unfold ansN
  cases anyC r with
  | true => exact ⟨_, rfl, rfl⟩
  | false => exact ⟨_, rfl, rfl⟩
end Go.Proofs.YtmojilihllhadaaGreatDoor.Ev
