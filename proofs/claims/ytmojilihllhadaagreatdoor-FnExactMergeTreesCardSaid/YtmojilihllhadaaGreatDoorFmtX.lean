/- The library's contracts at this seat: strings.Trim, strings.Repeat, strconv.FormatInt (at base 16: walked). Printed by mkfmt.py, a program of mine. -/
import Derived.Test.YtmojilihllhadaaGreatDoorSh
import Derived.Test.YtmojilihllhadaaGreatDoorEv1
import Derived.Test.YtmojilihllhadaaGreatDoorEvS
import Derived.Shelf.Spec.SlicesInsertGrow
import Derived.Lib.LaidTab
import Derived.Handy
import Derived.KernelRfl
set_option linter.unusedVariables false
set_option linter.unusedSimpArgs false
namespace Go.Proofs.YtmojilihllhadaaGreatDoor.Ev
open Go Go.Proofs Go.RowKit Go.Lib Go.Sort
theorem hex_tz (w : World) (hT : TabAt 3 Lib.deBruijn64tab w) : Calls Tryz.prog 293 #[.int .u64 16] w fun e w' => e = .returned (.int .i64 4) ∧ w' = w :=
  Any7.bits_TrailingZeros Tryz.lays27 16 (by omega) w (fun _ => hT)
def hexS : ByteArray := ⟨#[48, 49, 50, 51, 52, 53, 54, 55, 56, 57, 97, 98, 99, 100, 101, 102, 103, 104, 105, 106, 107, 108, 109, 110, 111, 112, 113, 114, 115, 116, 117, 118, 119, 120, 121, 122]⟩
theorem hexS_all : ∀ d : _root_.Fin 16, hexS[d.val]'(Nat.lt_of_lt_of_le d.isLt (by decide)) = hexDig d.val := by decide
theorem hexS_at (d : Nat) (h : d < 16) (h' : d < hexS.size) : hexS[d] = hexDig d := hexS_all ⟨d, h⟩
theorem and15 (m : Int) (h0 : 0 ≤ m) (h1 : m < 65536) : bits .and .u64 m 15 = m % 16 := by
  obtain ⟨k, rfl⟩ := Int.eq_ofNat_of_zero_le h0
  rw [show (15 : Int) = ((15 : Nat) : Int) from rfl, bits_and_u64_nat k 15 (by omega) (by omega), show (15 : Nat) = 2 ^ 4 - 1 from rfl, Nat.and_two_pow_sub_one_eq_mod]
  rfl
theorem tabAt_alloc {g : Nat} {t : List Nat} {w : World} (h : TabAt g t w) (o : Obj) : TabAt g t (w.alloc o) := fun j hj => by
  have := h j hj
  have hlt : g < w.heap.size := by
    rcases Nat.lt_or_ge g w.heap.size with h' | h'
    · exact h'
    · rw [World.cell?, Array.getElem?_eq_none h'] at this; cases this
  rw [← this]
  exact cell_same (Below.heap_alloc _ _ _ hlt)
theorem hexConv (C : Array Value) (w : World) (l : List UInt8) (o n cap : Nat) (hn : l.length = n) (hC : ∀ j (hj : j < l.length), C[o + j]? = some (.int .u8 (l[j].toNat : Int))) :
    (convert 152 9 (.slice (some ⟨w.heap.size, o, none⟩) n cap)).run Tryz.prog (w.alloc (.cells C 279)) = .ok (.string ⟨l.toArray⟩) (w.alloc (.cells C 279)) := by
  subst hn
  refine run_convert_bytes_back _ 152 9 5 _ cap l Tryz.underlying152 Tryz.underlying5 Tryz.underlying9 fun j hj => ?_
  rw [Addr.add_plain _ rfl, World.cell?_alloc_new]
  exact hC j hj
theorem zLen : Tryz.zeroCells279.size = 65 := by kernel_rfl
set_option maxHeartbeats 4000000 in
set_option maxRecDepth 100000 in
theorem w_hex1 (n : Int) (w : World) (h0 : 0 ≤ n) (h1 : n < 16) (hT : TabAt 3 Lib.deBruijn64tab w) :
    Calls Tryz.prog 251 #[.slice none 0 0, .int .u64 n, .int .i64 16, .bool false, .bool false] w fun e w' => e = .returned (.tuple #[.slice none 0 0, .string ⟨[hexDig n.toNat].toArray⟩]) ∧ Below w.heap.size w w' := by
  have hTA : ∀ o, TabAt 3 Lib.deBruijn64tab (w.alloc o) := fun o => tabAt_alloc hT o
  have hb : bits .and .i64 16 15 = 0 := by decide
  have hd0 := hexS_at n.toNat (by omega) (by show _ < 36; omega)
  have hlt : ¬ (16 ≤ n) := by omega
  have h36 : n < 36 := by omega
  have hpos : 0 ≤ n := by omega
  go_enter Tryz.func251, Tryz.ntmps251
  go_wp2_with (first | (go_at_call 293; refine (hex_tz _ (by first | exact hT | exact hTA _)).mono ?_; rintro e w' ⟨rfl, rfl⟩) | go_in)
  refine wp_loop_rounds 1 ?_
  rw [rounds_succ]
  go_wp2
  rw [hexConv _ w [hexDig n.toNat] 64 1 1 rfl (fun j hj => ?_)]
  · simp only [Result.andThen]
    rw [Oper.upon_value]
    go_wp2
    go_ret2
    exact ⟨rfl, Below.alloc (Below.refl _ _) (Nat.le_refl _) _⟩
  · match j, hj with
    | 0, _ =>
      simp only [Array.getElem?_setIfInBounds, Array.size_setIfInBounds, zLen]
      exact congrArg (fun x : UInt8 => some (Value.int .u8 (x.toNat : Int))) hd0
set_option maxHeartbeats 4000000 in
set_option maxRecDepth 100000 in
theorem w_hex2 (n : Int) (w : World) (h0 : 16 ≤ n) (h1 : n < 256) (hT : TabAt 3 Lib.deBruijn64tab w) :
    Calls Tryz.prog 251 #[.slice none 0 0, .int .u64 n, .int .i64 16, .bool false, .bool false] w fun e w' => e = .returned (.tuple #[.slice none 0 0, .string ⟨[hexDig (n / 16).toNat, hexDig (n % 16).toNat].toArray⟩]) ∧ Below w.heap.size w w' := by
  have hTA : ∀ o, TabAt 3 Lib.deBruijn64tab (w.alloc o) := fun o => tabAt_alloc hT o
  have hb : bits .and .i64 16 15 = 0 := by decide
  have hd0 := hexS_at (n / 16).toNat (by omega) (by show _ < 36; omega)
  have hd1 := hexS_at (n % 16).toNat (by omega) (by show _ < 36; omega)
  have ha0 : bits .and .u64 (n) 15 = (n) % 16 := and15 _ (by omega) (by omega)
  have hm0 : (n) % 16 < 36 := by omega
  have hp0 : 0 ≤ (n) % 16 := by omega
  have hg0 : 16 ≤ n := by omega
  have hlt : ¬ (16 ≤ n / 16) := by omega
  have h36 : n / 16 < 36 := by omega
  have hpos : 0 ≤ n / 16 := by omega
  go_enter Tryz.func251, Tryz.ntmps251
  go_wp2_with (first | (go_at_call 293; refine (hex_tz _ (by first | exact hT | exact hTA _)).mono ?_; rintro e w' ⟨rfl, rfl⟩) | go_in)
  refine wp_loop_rounds 2 ?_
  rw [rounds_succ]
  go_wp2
  rw [rounds_succ]
  go_wp2
  rw [hexConv _ w [hexDig (n / 16).toNat, hexDig (n % 16).toNat] 63 2 2 rfl (fun j hj => ?_)]
  · simp only [Result.andThen]
    rw [Oper.upon_value]
    go_wp2
    go_ret2
    exact ⟨rfl, Below.alloc (Below.refl _ _) (Nat.le_refl _) _⟩
  · match j, hj with
    | 0, _ =>
      simp only [Array.getElem?_setIfInBounds, Array.size_setIfInBounds, zLen]
      exact congrArg (fun x : UInt8 => some (Value.int .u8 (x.toNat : Int))) hd0
    | 1, _ =>
      simp only [Array.getElem?_setIfInBounds, Array.size_setIfInBounds, zLen]
      exact congrArg (fun x : UInt8 => some (Value.int .u8 (x.toNat : Int))) hd1
set_option maxHeartbeats 4000000 in
set_option maxRecDepth 100000 in
theorem w_hex3 (n : Int) (w : World) (h0 : 256 ≤ n) (h1 : n < 4096) (hT : TabAt 3 Lib.deBruijn64tab w) :
    Calls Tryz.prog 251 #[.slice none 0 0, .int .u64 n, .int .i64 16, .bool false, .bool false] w fun e w' => e = .returned (.tuple #[.slice none 0 0, .string ⟨[hexDig (n / 16 / 16).toNat, hexDig (n / 16 % 16).toNat, hexDig (n % 16).toNat].toArray⟩]) ∧ Below w.heap.size w w' := by
  have hTA : ∀ o, TabAt 3 Lib.deBruijn64tab (w.alloc o) := fun o => tabAt_alloc hT o
  have hb : bits .and .i64 16 15 = 0 := by decide
  have hd0 := hexS_at (n / 16 / 16).toNat (by omega) (by show _ < 36; omega)
  have hd1 := hexS_at (n / 16 % 16).toNat (by omega) (by show _ < 36; omega)
  have hd2 := hexS_at (n % 16).toNat (by omega) (by show _ < 36; omega)
  have ha0 : bits .and .u64 (n) 15 = (n) % 16 := and15 _ (by omega) (by omega)
  have hm0 : (n) % 16 < 36 := by omega
  have hp0 : 0 ≤ (n) % 16 := by omega
  have hg0 : 16 ≤ n := by omega
  have ha1 : bits .and .u64 (n / 16) 15 = (n / 16) % 16 := and15 _ (by omega) (by omega)
  have hm1 : (n / 16) % 16 < 36 := by omega
  have hp1 : 0 ≤ (n / 16) % 16 := by omega
  have hg1 : 16 ≤ n / 16 := by omega
  have hlt : ¬ (16 ≤ n / 16 / 16) := by omega
  have h36 : n / 16 / 16 < 36 := by omega
  have hpos : 0 ≤ n / 16 / 16 := by omega
  go_enter Tryz.func251, Tryz.ntmps251
  go_wp2_with (first | (go_at_call 293; refine (hex_tz _ (by first | exact hT | exact hTA _)).mono ?_; rintro e w' ⟨rfl, rfl⟩) | go_in)
  refine wp_loop_rounds 3 ?_
  rw [rounds_succ]
  go_wp2
  rw [rounds_succ]
  go_wp2
  rw [rounds_succ]
  go_wp2
  rw [hexConv _ w [hexDig (n / 16 / 16).toNat, hexDig (n / 16 % 16).toNat, hexDig (n % 16).toNat] 62 3 3 rfl (fun j hj => ?_)]
  · simp only [Result.andThen]
    rw [Oper.upon_value]
    go_wp2
    go_ret2
    exact ⟨rfl, Below.alloc (Below.refl _ _) (Nat.le_refl _) _⟩
  · match j, hj with
    | 0, _ =>
      simp only [Array.getElem?_setIfInBounds, Array.size_setIfInBounds, zLen]
      exact congrArg (fun x : UInt8 => some (Value.int .u8 (x.toNat : Int))) hd0
    | 1, _ =>
      simp only [Array.getElem?_setIfInBounds, Array.size_setIfInBounds, zLen]
      exact congrArg (fun x : UInt8 => some (Value.int .u8 (x.toNat : Int))) hd1
    | 2, _ =>
      simp only [Array.getElem?_setIfInBounds, Array.size_setIfInBounds, zLen]
      exact congrArg (fun x : UInt8 => some (Value.int .u8 (x.toNat : Int))) hd2
set_option maxHeartbeats 4000000 in
set_option maxRecDepth 100000 in
theorem w_hex4 (n : Int) (w : World) (h0 : 4096 ≤ n) (h1 : n < 65536) (hT : TabAt 3 Lib.deBruijn64tab w) :
    Calls Tryz.prog 251 #[.slice none 0 0, .int .u64 n, .int .i64 16, .bool false, .bool false] w fun e w' => e = .returned (.tuple #[.slice none 0 0, .string ⟨[hexDig (n / 16 / 16 / 16).toNat, hexDig (n / 16 / 16 % 16).toNat, hexDig (n / 16 % 16).toNat, hexDig (n % 16).toNat].toArray⟩]) ∧ Below w.heap.size w w' := by
  have hTA : ∀ o, TabAt 3 Lib.deBruijn64tab (w.alloc o) := fun o => tabAt_alloc hT o
  have hb : bits .and .i64 16 15 = 0 := by decide
  have hd0 := hexS_at (n / 16 / 16 / 16).toNat (by omega) (by show _ < 36; omega)
  have hd1 := hexS_at (n / 16 / 16 % 16).toNat (by omega) (by show _ < 36; omega)
  have hd2 := hexS_at (n / 16 % 16).toNat (by omega) (by show _ < 36; omega)
  have hd3 := hexS_at (n % 16).toNat (by omega) (by show _ < 36; omega)
  have ha0 : bits .and .u64 (n) 15 = (n) % 16 := and15 _ (by omega) (by omega)
  have hm0 : (n) % 16 < 36 := by omega
  have hp0 : 0 ≤ (n) % 16 := by omega
  have hg0 : 16 ≤ n := by omega
  have ha1 : bits .and .u64 (n / 16) 15 = (n / 16) % 16 := and15 _ (by omega) (by omega)
  have hm1 : (n / 16) % 16 < 36 := by omega
  have hp1 : 0 ≤ (n / 16) % 16 := by omega
  have hg1 : 16 ≤ n / 16 := by omega
  have ha2 : bits .and .u64 (n / 16 / 16) 15 = (n / 16 / 16) % 16 := and15 _ (by omega) (by omega)
  have hm2 : (n / 16 / 16) % 16 < 36 := by omega
  have hp2 : 0 ≤ (n / 16 / 16) % 16 := by omega
  have hg2 : 16 ≤ n / 16 / 16 := by omega
  have hlt : ¬ (16 ≤ n / 16 / 16 / 16) := by omega
  have h36 : n / 16 / 16 / 16 < 36 := by omega
  have hpos : 0 ≤ n / 16 / 16 / 16 := by omega
  go_enter Tryz.func251, Tryz.ntmps251
  go_wp2_with (first | (go_at_call 293; refine (hex_tz _ (by first | exact hT | exact hTA _)).mono ?_; rintro e w' ⟨rfl, rfl⟩) | go_in)
  refine wp_loop_rounds 4 ?_
  rw [rounds_succ]
  go_wp2
  rw [rounds_succ]
  go_wp2
  rw [rounds_succ]
  go_wp2
  rw [rounds_succ]
  go_wp2
  rw [hexConv _ w [hexDig (n / 16 / 16 / 16).toNat, hexDig (n / 16 / 16 % 16).toNat, hexDig (n / 16 % 16).toNat, hexDig (n % 16).toNat] 61 4 4 rfl (fun j hj => ?_)]
  · simp only [Result.andThen]
    rw [Oper.upon_value]
    go_wp2
    go_ret2
    exact ⟨rfl, Below.alloc (Below.refl _ _) (Nat.le_refl _) _⟩
  · match j, hj with
    | 0, _ =>
      simp only [Array.getElem?_setIfInBounds, Array.size_setIfInBounds, zLen]
      exact congrArg (fun x : UInt8 => some (Value.int .u8 (x.toNat : Int))) hd0
    | 1, _ =>
      simp only [Array.getElem?_setIfInBounds, Array.size_setIfInBounds, zLen]
      exact congrArg (fun x : UInt8 => some (Value.int .u8 (x.toNat : Int))) hd1
    | 2, _ =>
      simp only [Array.getElem?_setIfInBounds, Array.size_setIfInBounds, zLen]
      exact congrArg (fun x : UInt8 => some (Value.int .u8 (x.toNat : Int))) hd2
    | 3, _ =>
      simp only [Array.getElem?_setIfInBounds, Array.size_setIfInBounds, zLen]
      exact congrArg (fun x : UInt8 => some (Value.int .u8 (x.toNat : Int))) hd3
theorem hex_list (n : Int) (h0 : 0 ≤ n) : hexB n = ⟨(if n < 16 then [hexDig n.toNat] else if n < 256 then [hexDig (n / 16).toNat, hexDig (n % 16).toNat] else if n < 4096 then [hexDig (n / 16 / 16).toNat, hexDig (n / 16 % 16).toNat, hexDig (n % 16).toNat] else [hexDig (n / 16 / 16 / 16).toNat, hexDig (n / 16 / 16 % 16).toNat, hexDig (n / 16 % 16).toNat, hexDig (n % 16).toNat]).toArray⟩ := by
  obtain ⟨k, rfl⟩ := Int.eq_ofNat_of_zero_le h0
  unfold hexB
  have e1 : ((k : Int) / 16).toNat = k / 16 := by omega
  have e2 : ((k : Int) % 16).toNat = k % 16 := by omega
  have e3 : ((k : Int) / 16 / 16).toNat = k / 256 := by omega
  have e4 : ((k : Int) / 16 % 16).toNat = k / 16 % 16 := by omega
  have e5 : ((k : Int) / 16 / 16 / 16).toNat = k / 4096 := by omega
  have e6 : ((k : Int) / 16 / 16 % 16).toNat = k / 256 % 16 := by omega
  simp only [Int.toNat_natCast, e1, e2, e3, e4, e5, e6]
theorem w_hex (n : Int) (w : World) (h0 : 0 ≤ n) (h1 : n < 65536) (hT : TabAt 3 Lib.deBruijn64tab w) :
    Calls Tryz.prog 251 #[.slice none 0 0, .int .u64 n, .int .i64 16, .bool false, .bool false] w fun e w' => e = .returned (.tuple #[.slice none 0 0, .string (hexB n)]) ∧ Below w.heap.size w w' := by
  rw [hex_list n h0]
  split
  · exact w_hex1 n w h0 (by omega) hT
  · split
    · exact w_hex2 n w (by omega) (by omega) hT
    · split
      · exact w_hex3 n w (by omega) (by omega) hT
      · exact w_hex4 n w (by omega) h1 hT
set_option maxHeartbeats 4000000 in
set_option maxRecDepth 100000 in
theorem w_fmtI (n : Int) (w : World) (h0 : 0 ≤ n) (h1 : n < 65536) (hT : TabAt 3 Lib.deBruijn64tab w) :
    Calls Tryz.prog 215 #[.int .i64 n, .int .i64 16] w fun e w' => e = .returned (.string (hexB n)) ∧ Below w.heap.size w w' := by
  have hn : ¬ (n < 0) := by omega
  have hw : IntKind.u64.wrap n = n := by rw [IntKind.wrap_u64]; omega
  have h := w_hex n w h0 h1 hT
  go_enter Tryz.func215, Tryz.ntmps215
  go_wp2_with (go_at_call 251; refine h.mono ?_; rintro e w' ⟨rfl, hb⟩)
  go_ret
  exact ⟨rfl, hb⟩
set_option maxHeartbeats 4000000 in
set_option maxRecDepth 100000 in
theorem w_fmt16 (n : Int) (w : World) (h0 : 0 ≤ n) (h1 : n < 65536) (hT : TabAt 3 Lib.deBruijn64tab w) :
    Calls Tryz.prog 166 #[.int .i64 n, .int .i64 16] w fun e w' => e = .returned (.string (hexB n)) ∧ Below w.heap.size w w' := by
  have h := w_fmtI n w h0 h1 hT
  go_enter Tryz.func166, Tryz.ntmps166
  go_wp2_with (go_at_call 215; refine h.mono ?_; rintro e w' ⟨rfl, hb⟩)
  go_ret
  exact ⟨rfl, hb⟩
theorem tabIs_of {P : Program} {w : World} {name : String} {k : IntKind} {zs : List Int} {g : Nat} {el : TypeId} {fr : Nat × Nat} (hg : P.globalNamed name = some g) (h : w.heap[g]? = some (.cells (zs.map fun z => Value.int k z).toArray el fr)) : TabIs P w name k zs := by
  unfold TabIs World.var?
  rw [hg]
  simp only [Option.bind_some, h]
theorem tabAt_of {w : World} {g : Nat} {t : List Nat} {el : TypeId} {fr : Nat × Nat} (h : w.heap[g]? = some (.cells ((t.map fun z : Nat => (z : Int)).map fun z => Value.int .u8 z).toArray el fr)) : TabAt g t w := fun j hj => by
  simp [World.cell?, h, List.getD, hj]
theorem w_fmt10 (n : Int) (B : Nat → Prop) (F : Fz) (w : World) (hG : GlobOk env B F w) (h0 : -9223372036854775808 ≤ n) (h1 : n ≤ 9223372036854775807) :
    Calls Tryz.prog 166 #[.int .i64 n, .int .i64 10] w fun e w' => e = .returned (.string (decB n)) ∧ Below w.heap.size w w' := by
  obtain ⟨_, el, fr, h⟩ := hG.2 1 _ rfl
  refine (Any.strconv_FormatInt_10 Tryz.laysM173 n h0 h1 w (tabIs_of (by kernel_rfl) h)).mono ?_
  rintro e w' ⟨rfl, k, os, rfl⟩
  exact ⟨rfl, rfl, rfl, rfl, by simp [grow, World.drewN], fun i hi => by simp only [grow]; rw [Array.getElem?_append_left (by exact hi)]; rfl⟩
theorem libFmt : XtOne Tryz.prog env 166 (.lib .fmtInt) :=
  fmtInt_one (fun n B F w hG h0 h1 => w_fmt10 n B F w hG h0 h1) (fun n B F w hG h0 h1 => by
    obtain ⟨_, el, fr, h⟩ := hG.2 3 _ rfl
    exact w_fmt16 n w h0 h1 (tabAt_of h)) ⟨_, Tryz.func166, by kernel_rfl, by kernel_rfl⟩
end Go.Proofs.YtmojilihllhadaaGreatDoor.Ev
