-- Written by a program of mine (ext.py, over the kit's printer) out of the translation. Lean checks it.
import Derived.Test.YtjklgmflillagaaProg
import Derived.Below
import Derived.Deep.Draws
import Derived.Deep.AppendLies
import Derived.Maps.AppendAt
import Derived.OwnWalk
import Derived.Laws.BytesArg
import Derived.Laws.MakeOwn
import Derived.Laws.OwnMore
import Derived.Deep.OwnRows
import Derived.Tactics
import Derived.Lib.ConvBytes
import Derived.Laws.Slices
import Derived.WalkKit
import Derived.KernelRfl
import Derived.RowKit3
import Derived.Deep.LoopGhost
import Derived.Deep.QuietTactic
import Derived.BigQuiet
import Derived.WideLaws
import Derived.Deep.DeepCutAuto
import Derived.Deep.CutBlock
import Derived.Deep.RegionHeld3
import Derived.Laws.Rows
import Derived.Lib.AppendStr
import Derived.ArgAppend
import Derived.Laws.IdiomCopy
import Derived.OrdersHeld
import Derived.Laws.BitsLemmas
import Derived.RowKit
import Derived.Test.YtjklgmflillagaaWWords
import Derived.Test.YtjklgmflillagaaWLast
import Derived.Test.YtjklgmflillagaaWTab
import Derived.Test.YtjklgmflillagaaWFour
import Derived.Test.YtjklgmflillagaaWQPut
import Derived.Test.YtjklgmflillagaaWApart
import Derived.Test.YtjklgmflillagaaWArr
import Derived.Test.YtjklgmflillagaaWZeros
import Derived.Test.YtjklgmflillagaaWFoot
import Derived.Test.YtjklgmflillagaaWKept
import Derived.Test.YtjklgmflillagaaWShare
import Derived.Test.YtjklgmflillagaaWN
import Derived.Test.YtjklgmflillagaaWFootNe
import Derived.Test.YtjklgmflillagaaWAt
import Derived.Test.YtjklgmflillagaaWEqStruct
import Derived.Test.YtjklgmflillagaaWRepsOne
import Derived.Test.YtjklgmflillagaaWInv
import Derived.Test.YtjklgmflillagaaWInvWords
import Derived.Test.YtjklgmflillagaaWGuard
import Derived.Test.YtjklgmflillagaaWNEv
import Derived.Test.YtjklgmflillagaaWMore
namespace Go.Proofs.Ytjklgmflillagaa.Pr
open Go.RowKit Go.Proofs.YtjklgmflillagaaW.PrintWords Go.Proofs.YtjklgmflillagaaW.PrintLast Go.Proofs.YtjklgmflillagaaW.PrintMore
attribute [local go_sem] max2_int min2_int max_two min_two max_three min_three max_four min_four   -- for this text's walks alone
set_option linter.unusedVariables false
set_option linter.unusedSimpArgs false



def errW : Option Int → Value
  | none => .nilIface
  | some c => .iface 0 (.int .i64 c)
theorem errW_none : errW none = .nilIface := rfl
theorem errW_some (c : Int) : errW (some c) = .iface 0 (.int .i64 c) := rfl

theorem info5 : (Try.prog.info? 5).map (fun i => (i.zero, i.size, i.bytes)) = some (some (.int .u8 0), 1, 1) := by kernel_rfl
theorem info66 : (Try.prog.info? 66).map (fun i => (i.zero, i.size, i.bytes)) = some (some (.agg #[(.string ⟨#[]⟩), (.string ⟨#[]⟩)]), 2, 32) := by kernel_rfl
theorem info72 : (Try.prog.info? 72).map (fun i => (i.zero, i.size, i.bytes)) = some (some (.agg #[(.string ⟨#[]⟩), (.int .i64 0), (.int .i64 0), (.string ⟨#[]⟩)]), 4, 48) := by kernel_rfl
theorem info88 : (Try.prog.info? 88).map (fun i => (i.zero, i.size, i.bytes)) = some (some (.agg #[(.string ⟨#[]⟩), (.int .i64 0), (.string ⟨#[]⟩)]), 3, 40) := by kernel_rfl
-- the values' own types
/-! #### struct type 65 -/
structure S_lawsWork where
  f0 : ByteArray
  f1 : ByteArray
def z_lawsWork : S_lawsWork := ⟨(⟨#[]⟩ : ByteArray), (⟨#[]⟩ : ByteArray)⟩
def k_lawsWork : Kd S_lawsWork := Kd.iso (Kd.pair Kd.string Kd.string) (fun x : S_lawsWork => (x.f0, x.f1))
theorem k_lawsWork_open {w : World} {x : S_lawsWork} {cs : List Value} (h : k_lawsWork.K w x cs) : cs = [.string x.f0, .string x.f1] := by
  obtain ⟨_, _, rfl, rfl, rfl⟩ := h
  exact rfl
theorem k_lawsWork_openM {w : World} {base : Nat} {ok : Nat → Prop} {x : S_lawsWork} {cs : List Value} (h : k_lawsWork.M w base ok x cs) : cs = [.string x.f0, .string x.f1] := by
  obtain ⟨_, _, rfl, rfl, rfl⟩ := h
  exact rfl
theorem k_lawsWork_mk (w : World) (x : S_lawsWork)  : k_lawsWork.K w x [.string x.f0, .string x.f1] := ⟨[.string x.f0], [.string x.f1], rfl, rfl, rfl⟩
theorem k_lawsWork_mkM (w : World) (base : Nat) (ok : Nat → Prop) (x : S_lawsWork)  : k_lawsWork.M w base ok x [.string x.f0, .string x.f1] := ⟨[.string x.f0], [.string x.f1], rfl, rfl, rfl⟩
def rd__lawsWork (xs : List S_lawsWork) (i : Int) : S_lawsWork := xs.getD i.toNat z_lawsWork
theorem at__lawsWork {w : World} {A : Option Addr} {n : Nat} {xs : List S_lawsWork} (h : Kd.C k_lawsWork w A n xs) (i : Int) (h0 : 0 ≤ i) (h1 : i < n) : ∃ ad , A = some ad ∧ w.cell? (ad.add (i.toNat * 2)) = some (.string (rd__lawsWork xs i).f0) ∧ w.cell? ⟨(ad.add (i.toNat * 2)).block, (ad.add (i.toNat * 2)).off + 1, none⟩ = some (.string (rd__lawsWork xs i).f1) := by
  obtain ⟨ad, c, e, _, hK, hc0⟩ := Kd.C_get h z_lawsWork i h0 h1
  have hc : ∀ j u, c[j]? = some u → w.cell? (ad.add (i.toNat * 2 + j)) = some u := hc0
  obtain rfl := k_lawsWork_open hK
  exact ⟨ad, e, hc 0 _ rfl, by rw [← add_field _ _ 1 (by omega)]; exact hc 1 _ rfl⟩

/-! #### struct type 66 -/
structure S_implWork where
  f0 : ByteArray
  f1 : ByteArray
def z_implWork : S_implWork := ⟨(⟨#[]⟩ : ByteArray), (⟨#[]⟩ : ByteArray)⟩
def k_implWork : Kd S_implWork := Kd.iso (Kd.pair Kd.string Kd.string) (fun x : S_implWork => (x.f0, x.f1))
theorem k_implWork_open {w : World} {x : S_implWork} {cs : List Value} (h : k_implWork.K w x cs) : cs = [.string x.f0, .string x.f1] := by
  obtain ⟨_, _, rfl, rfl, rfl⟩ := h
  exact rfl
theorem k_implWork_openM {w : World} {base : Nat} {ok : Nat → Prop} {x : S_implWork} {cs : List Value} (h : k_implWork.M w base ok x cs) : cs = [.string x.f0, .string x.f1] := by
  obtain ⟨_, _, rfl, rfl, rfl⟩ := h
  exact rfl
theorem k_implWork_mk (w : World) (x : S_implWork)  : k_implWork.K w x [.string x.f0, .string x.f1] := ⟨[.string x.f0], [.string x.f1], rfl, rfl, rfl⟩
theorem k_implWork_mkM (w : World) (base : Nat) (ok : Nat → Prop) (x : S_implWork)  : k_implWork.M w base ok x [.string x.f0, .string x.f1] := ⟨[.string x.f0], [.string x.f1], rfl, rfl, rfl⟩
def rd__implWork (xs : List S_implWork) (i : Int) : S_implWork := xs.getD i.toNat z_implWork
theorem at__implWork {w : World} {A : Option Addr} {n : Nat} {xs : List S_implWork} (h : Kd.C k_implWork w A n xs) (i : Int) (h0 : 0 ≤ i) (h1 : i < n) : ∃ ad , A = some ad ∧ w.cell? (ad.add (i.toNat * 2)) = some (.string (rd__implWork xs i).f0) ∧ w.cell? ⟨(ad.add (i.toNat * 2)).block, (ad.add (i.toNat * 2)).off + 1, none⟩ = some (.string (rd__implWork xs i).f1) := by
  obtain ⟨ad, c, e, _, hK, hc0⟩ := Kd.C_get h z_implWork i h0 h1
  have hc : ∀ j u, c[j]? = some u → w.cell? (ad.add (i.toNat * 2 + j)) = some u := hc0
  obtain rfl := k_implWork_open hK
  exact ⟨ad, e, hc 0 _ rfl, by rw [← add_field _ _ 1 (by omega)]; exact hc 1 _ rfl⟩

/-! #### struct type 85 -/
structure S_lawsObject where
  f0 : ByteArray
  f1 : Int
  f2 : ByteArray
def z_lawsObject : S_lawsObject := ⟨(⟨#[]⟩ : ByteArray), (0 : Int), (⟨#[]⟩ : ByteArray)⟩
def k_lawsObject : Kd S_lawsObject := Kd.iso (Kd.pair Kd.string (Kd.pair (Kd.int .i64) Kd.string)) (fun x : S_lawsObject => (x.f0, x.f1, x.f2))
theorem k_lawsObject_open {w : World} {x : S_lawsObject} {cs : List Value} (h : k_lawsObject.K w x cs) : cs = [.string x.f0, .int .i64 x.f1, .string x.f2] := by
  obtain ⟨_, _, rfl, rfl, ⟨_, _, rfl, rfl, rfl⟩⟩ := h
  exact rfl
theorem k_lawsObject_openM {w : World} {base : Nat} {ok : Nat → Prop} {x : S_lawsObject} {cs : List Value} (h : k_lawsObject.M w base ok x cs) : cs = [.string x.f0, .int .i64 x.f1, .string x.f2] := by
  obtain ⟨_, _, rfl, rfl, ⟨_, _, rfl, rfl, rfl⟩⟩ := h
  exact rfl
theorem k_lawsObject_mk (w : World) (x : S_lawsObject)  : k_lawsObject.K w x [.string x.f0, .int .i64 x.f1, .string x.f2] := ⟨[.string x.f0], [.int .i64 x.f1, .string x.f2], rfl, rfl, ⟨[.int .i64 x.f1], [.string x.f2], rfl, rfl, rfl⟩⟩
theorem k_lawsObject_mkM (w : World) (base : Nat) (ok : Nat → Prop) (x : S_lawsObject)  : k_lawsObject.M w base ok x [.string x.f0, .int .i64 x.f1, .string x.f2] := ⟨[.string x.f0], [.int .i64 x.f1, .string x.f2], rfl, rfl, ⟨[.int .i64 x.f1], [.string x.f2], rfl, rfl, rfl⟩⟩
def rd__lawsObject (xs : List S_lawsObject) (i : Int) : S_lawsObject := xs.getD i.toNat z_lawsObject
theorem at__lawsObject {w : World} {A : Option Addr} {n : Nat} {xs : List S_lawsObject} (h : Kd.C k_lawsObject w A n xs) (i : Int) (h0 : 0 ≤ i) (h1 : i < n) : ∃ ad , A = some ad ∧ w.cell? (ad.add (i.toNat * 3)) = some (.string (rd__lawsObject xs i).f0) ∧ w.cell? ⟨(ad.add (i.toNat * 3)).block, (ad.add (i.toNat * 3)).off + 1, none⟩ = some (.int .i64 (rd__lawsObject xs i).f1) ∧ w.cell? ⟨(ad.add (i.toNat * 3)).block, (ad.add (i.toNat * 3)).off + 2, none⟩ = some (.string (rd__lawsObject xs i).f2) := by
  obtain ⟨ad, c, e, _, hK, hc0⟩ := Kd.C_get h z_lawsObject i h0 h1
  have hc : ∀ j u, c[j]? = some u → w.cell? (ad.add (i.toNat * 3 + j)) = some u := hc0
  obtain rfl := k_lawsObject_open hK
  exact ⟨ad, e, hc 0 _ rfl, by rw [← add_field _ _ 1 (by omega)]; exact hc 1 _ rfl, by rw [← add_field _ _ 2 (by omega)]; exact hc 2 _ rfl⟩

/-! #### struct type 87 -/
structure S_lawsEntry where
  f0 : ByteArray
  f1 : Int
  f2 : Int
  f3 : ByteArray
def z_lawsEntry : S_lawsEntry := ⟨(⟨#[]⟩ : ByteArray), (0 : Int), (0 : Int), (⟨#[]⟩ : ByteArray)⟩
def k_lawsEntry : Kd S_lawsEntry := Kd.iso (Kd.pair Kd.string (Kd.pair (Kd.int .i64) (Kd.pair (Kd.int .i64) Kd.string))) (fun x : S_lawsEntry => (x.f0, x.f1, x.f2, x.f3))
theorem k_lawsEntry_open {w : World} {x : S_lawsEntry} {cs : List Value} (h : k_lawsEntry.K w x cs) : cs = [.string x.f0, .int .i64 x.f1, .int .i64 x.f2, .string x.f3] := by
  obtain ⟨_, _, rfl, rfl, ⟨_, _, rfl, rfl, ⟨_, _, rfl, rfl, rfl⟩⟩⟩ := h
  exact rfl
theorem k_lawsEntry_openM {w : World} {base : Nat} {ok : Nat → Prop} {x : S_lawsEntry} {cs : List Value} (h : k_lawsEntry.M w base ok x cs) : cs = [.string x.f0, .int .i64 x.f1, .int .i64 x.f2, .string x.f3] := by
  obtain ⟨_, _, rfl, rfl, ⟨_, _, rfl, rfl, ⟨_, _, rfl, rfl, rfl⟩⟩⟩ := h
  exact rfl
theorem k_lawsEntry_mk (w : World) (x : S_lawsEntry)  : k_lawsEntry.K w x [.string x.f0, .int .i64 x.f1, .int .i64 x.f2, .string x.f3] := ⟨[.string x.f0], [.int .i64 x.f1, .int .i64 x.f2, .string x.f3], rfl, rfl, ⟨[.int .i64 x.f1], [.int .i64 x.f2, .string x.f3], rfl, rfl, ⟨[.int .i64 x.f2], [.string x.f3], rfl, rfl, rfl⟩⟩⟩
theorem k_lawsEntry_mkM (w : World) (base : Nat) (ok : Nat → Prop) (x : S_lawsEntry)  : k_lawsEntry.M w base ok x [.string x.f0, .int .i64 x.f1, .int .i64 x.f2, .string x.f3] := ⟨[.string x.f0], [.int .i64 x.f1, .int .i64 x.f2, .string x.f3], rfl, rfl, ⟨[.int .i64 x.f1], [.int .i64 x.f2, .string x.f3], rfl, rfl, ⟨[.int .i64 x.f2], [.string x.f3], rfl, rfl, rfl⟩⟩⟩
def rd__lawsEntry (xs : List S_lawsEntry) (i : Int) : S_lawsEntry := xs.getD i.toNat z_lawsEntry
theorem at__lawsEntry {w : World} {A : Option Addr} {n : Nat} {xs : List S_lawsEntry} (h : Kd.C k_lawsEntry w A n xs) (i : Int) (h0 : 0 ≤ i) (h1 : i < n) : ∃ ad , A = some ad ∧ w.cell? (ad.add (i.toNat * 4)) = some (.string (rd__lawsEntry xs i).f0) ∧ w.cell? ⟨(ad.add (i.toNat * 4)).block, (ad.add (i.toNat * 4)).off + 1, none⟩ = some (.int .i64 (rd__lawsEntry xs i).f1) ∧ w.cell? ⟨(ad.add (i.toNat * 4)).block, (ad.add (i.toNat * 4)).off + 2, none⟩ = some (.int .i64 (rd__lawsEntry xs i).f2) ∧ w.cell? ⟨(ad.add (i.toNat * 4)).block, (ad.add (i.toNat * 4)).off + 3, none⟩ = some (.string (rd__lawsEntry xs i).f3) := by
  obtain ⟨ad, c, e, _, hK, hc0⟩ := Kd.C_get h z_lawsEntry i h0 h1
  have hc : ∀ j u, c[j]? = some u → w.cell? (ad.add (i.toNat * 4 + j)) = some u := hc0
  obtain rfl := k_lawsEntry_open hK
  exact ⟨ad, e, hc 0 _ rfl, by rw [← add_field _ _ 1 (by omega)]; exact hc 1 _ rfl, by rw [← add_field _ _ 2 (by omega)]; exact hc 2 _ rfl, by rw [← add_field _ _ 3 (by omega)]; exact hc 3 _ rfl⟩

/-! #### struct type 72 -/
structure S_implEntry where
  f0 : ByteArray
  f1 : Int
  f2 : Int
  f3 : ByteArray
def z_implEntry : S_implEntry := ⟨(⟨#[]⟩ : ByteArray), (0 : Int), (0 : Int), (⟨#[]⟩ : ByteArray)⟩
def k_implEntry : Kd S_implEntry := Kd.iso (Kd.pair Kd.string (Kd.pair (Kd.int .i64) (Kd.pair (Kd.int .i64) Kd.string))) (fun x : S_implEntry => (x.f0, x.f1, x.f2, x.f3))
theorem k_implEntry_open {w : World} {x : S_implEntry} {cs : List Value} (h : k_implEntry.K w x cs) : cs = [.string x.f0, .int .i64 x.f1, .int .i64 x.f2, .string x.f3] := by
  obtain ⟨_, _, rfl, rfl, ⟨_, _, rfl, rfl, ⟨_, _, rfl, rfl, rfl⟩⟩⟩ := h
  exact rfl
theorem k_implEntry_openM {w : World} {base : Nat} {ok : Nat → Prop} {x : S_implEntry} {cs : List Value} (h : k_implEntry.M w base ok x cs) : cs = [.string x.f0, .int .i64 x.f1, .int .i64 x.f2, .string x.f3] := by
  obtain ⟨_, _, rfl, rfl, ⟨_, _, rfl, rfl, ⟨_, _, rfl, rfl, rfl⟩⟩⟩ := h
  exact rfl
theorem k_implEntry_mk (w : World) (x : S_implEntry)  : k_implEntry.K w x [.string x.f0, .int .i64 x.f1, .int .i64 x.f2, .string x.f3] := ⟨[.string x.f0], [.int .i64 x.f1, .int .i64 x.f2, .string x.f3], rfl, rfl, ⟨[.int .i64 x.f1], [.int .i64 x.f2, .string x.f3], rfl, rfl, ⟨[.int .i64 x.f2], [.string x.f3], rfl, rfl, rfl⟩⟩⟩
theorem k_implEntry_mkM (w : World) (base : Nat) (ok : Nat → Prop) (x : S_implEntry)  : k_implEntry.M w base ok x [.string x.f0, .int .i64 x.f1, .int .i64 x.f2, .string x.f3] := ⟨[.string x.f0], [.int .i64 x.f1, .int .i64 x.f2, .string x.f3], rfl, rfl, ⟨[.int .i64 x.f1], [.int .i64 x.f2, .string x.f3], rfl, rfl, ⟨[.int .i64 x.f2], [.string x.f3], rfl, rfl, rfl⟩⟩⟩
def rd__implEntry (xs : List S_implEntry) (i : Int) : S_implEntry := xs.getD i.toNat z_implEntry
theorem at__implEntry {w : World} {A : Option Addr} {n : Nat} {xs : List S_implEntry} (h : Kd.C k_implEntry w A n xs) (i : Int) (h0 : 0 ≤ i) (h1 : i < n) : ∃ ad , A = some ad ∧ w.cell? (ad.add (i.toNat * 4)) = some (.string (rd__implEntry xs i).f0) ∧ w.cell? ⟨(ad.add (i.toNat * 4)).block, (ad.add (i.toNat * 4)).off + 1, none⟩ = some (.int .i64 (rd__implEntry xs i).f1) ∧ w.cell? ⟨(ad.add (i.toNat * 4)).block, (ad.add (i.toNat * 4)).off + 2, none⟩ = some (.int .i64 (rd__implEntry xs i).f2) ∧ w.cell? ⟨(ad.add (i.toNat * 4)).block, (ad.add (i.toNat * 4)).off + 3, none⟩ = some (.string (rd__implEntry xs i).f3) := by
  obtain ⟨ad, c, e, _, hK, hc0⟩ := Kd.C_get h z_implEntry i h0 h1
  have hc : ∀ j u, c[j]? = some u → w.cell? (ad.add (i.toNat * 4 + j)) = some u := hc0
  obtain rfl := k_implEntry_open hK
  exact ⟨ad, e, hc 0 _ rfl, by rw [← add_field _ _ 1 (by omega)]; exact hc 1 _ rfl, by rw [← add_field _ _ 2 (by omega)]; exact hc 2 _ rfl, by rw [← add_field _ _ 3 (by omega)]; exact hc 3 _ rfl⟩

/-! #### struct type 88 -/
structure S_implObject where
  f0 : ByteArray
  f1 : Int
  f2 : ByteArray
def z_implObject : S_implObject := ⟨(⟨#[]⟩ : ByteArray), (0 : Int), (⟨#[]⟩ : ByteArray)⟩
def k_implObject : Kd S_implObject := Kd.iso (Kd.pair Kd.string (Kd.pair (Kd.int .i64) Kd.string)) (fun x : S_implObject => (x.f0, x.f1, x.f2))
theorem k_implObject_open {w : World} {x : S_implObject} {cs : List Value} (h : k_implObject.K w x cs) : cs = [.string x.f0, .int .i64 x.f1, .string x.f2] := by
  obtain ⟨_, _, rfl, rfl, ⟨_, _, rfl, rfl, rfl⟩⟩ := h
  exact rfl
theorem k_implObject_openM {w : World} {base : Nat} {ok : Nat → Prop} {x : S_implObject} {cs : List Value} (h : k_implObject.M w base ok x cs) : cs = [.string x.f0, .int .i64 x.f1, .string x.f2] := by
  obtain ⟨_, _, rfl, rfl, ⟨_, _, rfl, rfl, rfl⟩⟩ := h
  exact rfl
theorem k_implObject_mk (w : World) (x : S_implObject)  : k_implObject.K w x [.string x.f0, .int .i64 x.f1, .string x.f2] := ⟨[.string x.f0], [.int .i64 x.f1, .string x.f2], rfl, rfl, ⟨[.int .i64 x.f1], [.string x.f2], rfl, rfl, rfl⟩⟩
theorem k_implObject_mkM (w : World) (base : Nat) (ok : Nat → Prop) (x : S_implObject)  : k_implObject.M w base ok x [.string x.f0, .int .i64 x.f1, .string x.f2] := ⟨[.string x.f0], [.int .i64 x.f1, .string x.f2], rfl, rfl, ⟨[.int .i64 x.f1], [.string x.f2], rfl, rfl, rfl⟩⟩
def rd__implObject (xs : List S_implObject) (i : Int) : S_implObject := xs.getD i.toNat z_implObject
theorem at__implObject {w : World} {A : Option Addr} {n : Nat} {xs : List S_implObject} (h : Kd.C k_implObject w A n xs) (i : Int) (h0 : 0 ≤ i) (h1 : i < n) : ∃ ad , A = some ad ∧ w.cell? (ad.add (i.toNat * 3)) = some (.string (rd__implObject xs i).f0) ∧ w.cell? ⟨(ad.add (i.toNat * 3)).block, (ad.add (i.toNat * 3)).off + 1, none⟩ = some (.int .i64 (rd__implObject xs i).f1) ∧ w.cell? ⟨(ad.add (i.toNat * 3)).block, (ad.add (i.toNat * 3)).off + 2, none⟩ = some (.string (rd__implObject xs i).f2) := by
  obtain ⟨ad, c, e, _, hK, hc0⟩ := Kd.C_get h z_implObject i h0 h1
  have hc : ∀ j u, c[j]? = some u → w.cell? (ad.add (i.toNat * 3 + j)) = some u := hc0
  obtain rfl := k_implObject_open hK
  exact ⟨ad, e, hc 0 _ rfl, by rw [← add_field _ _ 1 (by omega)]; exact hc 1 _ rfl, by rw [← add_field _ _ 2 (by omega)]; exact hc 2 _ rfl⟩

/-! #### struct type 104 -/
structure S_implBranch where
  f0 : ByteArray
  f1 : ByteArray
def z_implBranch : S_implBranch := ⟨(⟨#[]⟩ : ByteArray), (⟨#[]⟩ : ByteArray)⟩
def k_implBranch : Kd S_implBranch := Kd.iso (Kd.pair Kd.string Kd.string) (fun x : S_implBranch => (x.f0, x.f1))
theorem k_implBranch_open {w : World} {x : S_implBranch} {cs : List Value} (h : k_implBranch.K w x cs) : cs = [.string x.f0, .string x.f1] := by
  obtain ⟨_, _, rfl, rfl, rfl⟩ := h
  exact rfl
theorem k_implBranch_openM {w : World} {base : Nat} {ok : Nat → Prop} {x : S_implBranch} {cs : List Value} (h : k_implBranch.M w base ok x cs) : cs = [.string x.f0, .string x.f1] := by
  obtain ⟨_, _, rfl, rfl, rfl⟩ := h
  exact rfl
theorem k_implBranch_mk (w : World) (x : S_implBranch)  : k_implBranch.K w x [.string x.f0, .string x.f1] := ⟨[.string x.f0], [.string x.f1], rfl, rfl, rfl⟩
theorem k_implBranch_mkM (w : World) (base : Nat) (ok : Nat → Prop) (x : S_implBranch)  : k_implBranch.M w base ok x [.string x.f0, .string x.f1] := ⟨[.string x.f0], [.string x.f1], rfl, rfl, rfl⟩
def rd__implBranch (xs : List S_implBranch) (i : Int) : S_implBranch := xs.getD i.toNat z_implBranch
theorem at__implBranch {w : World} {A : Option Addr} {n : Nat} {xs : List S_implBranch} (h : Kd.C k_implBranch w A n xs) (i : Int) (h0 : 0 ≤ i) (h1 : i < n) : ∃ ad , A = some ad ∧ w.cell? (ad.add (i.toNat * 2)) = some (.string (rd__implBranch xs i).f0) ∧ w.cell? ⟨(ad.add (i.toNat * 2)).block, (ad.add (i.toNat * 2)).off + 1, none⟩ = some (.string (rd__implBranch xs i).f1) := by
  obtain ⟨ad, c, e, _, hK, hc0⟩ := Kd.C_get h z_implBranch i h0 h1
  have hc : ∀ j u, c[j]? = some u → w.cell? (ad.add (i.toNat * 2 + j)) = some u := hc0
  obtain rfl := k_implBranch_open hK
  exact ⟨ad, e, hc 0 _ rfl, by rw [← add_field _ _ 1 (by omega)]; exact hc 1 _ rfl⟩

/-! #### struct type 107 -/
structure S_implRule where
  f0 : ByteArray
  f1 : ByteArray
def z_implRule : S_implRule := ⟨(⟨#[]⟩ : ByteArray), (⟨#[]⟩ : ByteArray)⟩
def k_implRule : Kd S_implRule := Kd.iso (Kd.pair Kd.string Kd.string) (fun x : S_implRule => (x.f0, x.f1))
theorem k_implRule_open {w : World} {x : S_implRule} {cs : List Value} (h : k_implRule.K w x cs) : cs = [.string x.f0, .string x.f1] := by
  obtain ⟨_, _, rfl, rfl, rfl⟩ := h
  exact rfl
theorem k_implRule_openM {w : World} {base : Nat} {ok : Nat → Prop} {x : S_implRule} {cs : List Value} (h : k_implRule.M w base ok x cs) : cs = [.string x.f0, .string x.f1] := by
  obtain ⟨_, _, rfl, rfl, rfl⟩ := h
  exact rfl
theorem k_implRule_mk (w : World) (x : S_implRule)  : k_implRule.K w x [.string x.f0, .string x.f1] := ⟨[.string x.f0], [.string x.f1], rfl, rfl, rfl⟩
theorem k_implRule_mkM (w : World) (base : Nat) (ok : Nat → Prop) (x : S_implRule)  : k_implRule.M w base ok x [.string x.f0, .string x.f1] := ⟨[.string x.f0], [.string x.f1], rfl, rfl, rfl⟩
def rd__implRule (xs : List S_implRule) (i : Int) : S_implRule := xs.getD i.toNat z_implRule
theorem at__implRule {w : World} {A : Option Addr} {n : Nat} {xs : List S_implRule} (h : Kd.C k_implRule w A n xs) (i : Int) (h0 : 0 ≤ i) (h1 : i < n) : ∃ ad , A = some ad ∧ w.cell? (ad.add (i.toNat * 2)) = some (.string (rd__implRule xs i).f0) ∧ w.cell? ⟨(ad.add (i.toNat * 2)).block, (ad.add (i.toNat * 2)).off + 1, none⟩ = some (.string (rd__implRule xs i).f1) := by
  obtain ⟨ad, c, e, _, hK, hc0⟩ := Kd.C_get h z_implRule i h0 h1
  have hc : ∀ j u, c[j]? = some u → w.cell? (ad.add (i.toNat * 2 + j)) = some u := hc0
  obtain rfl := k_implRule_open hK
  exact ⟨ad, e, hc 0 _ rfl, by rw [← add_field _ _ 1 (by omega)]; exact hc 1 _ rfl⟩

end Go.Proofs.Ytjklgmflillagaa.Pr
