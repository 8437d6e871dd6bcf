/- The evaluator: Ev0. -/
import Derived.Lib.Join
import Derived.Calls
import Derived.Lib.Bytealg
import Derived.Lib.BitFns
import Derived.Lib.SlTrimSet
import Derived.Lib.ItoaNum
import Derived.Lib.Repeat
import Derived.Sort.Defs
/- An evaluator of this model's code over values without addresses: what it says of a call is shown elsewhere to be what the machine does. -/
set_option linter.unusedVariables false
namespace Go.Proofs.YtmojilihllhadaaGreatDoor.Ev
open Go
noncomputable section
inductive Ty where
  | int (k : IntKind) | bool | str | sl (t : Ty) | unit | pair (a b : Ty) | st (t : Ty)
  deriving DecidableEq
@[reducible] def Ty.den : Ty → Type
  | .int _ => Int
  | .bool => Bool
  | .str => ByteArray
  | .sl t => List t.den
  | .unit => Unit
  | .pair a b => a.den × b.den
  | .st t => t.den
def Ty.dft : (t : Ty) → t.den
  | .int _ => (0 : Int)
  | .bool => false
  | .str => ByteArray.mk #[]
  | .sl _ => []
  | .unit => ()
  | .pair a b => (a.dft, b.dft)
  | .st t => t.dft
def Ty.hasSl : Ty → Bool
  | .sl _ => true
  | .pair a b => a.hasSl || b.hasSl
  | .st t => t.hasSl
  | _ => false
def Ty.size : Ty → Nat
  | .unit => 0
  | .pair a b => a.size + b.size
  | .st t => t.size
  | _ => 1
inductive AV where
  | int (k : IntKind) (x : Int)
  | bool (b : Bool)
  | str (s : ByteArray)
  | sl (t : Ty) (l : List t.den)
  | emp
  | agg (cs : List AV)
  | tup (cs : List AV)
  | all (id sz n : Nat)
  | own (id sz off n : Nat)
  | ptr (id i : Nat)
  | eptr (id i j : Nat)
  | aptr (id sz n : Nat)
  | rptr (t : Ty) (l : List t.den) (i j : Nat)
  | fn (f : FuncId) (caps : List AV)
  | slf (id : Nat)
  | mp (id : Nat)
  | raw (v : Value)
  | top
inductive Blk where
  | var (T : TypeId) (cs : List AV)
  | arr (t : Ty) (l : List t.den) (lent : Bool)
  | mp (m : List (ByteArray × Bool))
  | dead
abbrev Hp := List Blk
def castL? (a b : Ty) (x : List a.den) : Option (List b.den) := if h : a = b then some (h ▸ x) else none
def nth (t : Ty) (l : List t.den) (i : Nat) : t.den := l.getD i t.dft
def explode : (t : Ty) → t.den → List AV
  | .int k, x => [.int k x]
  | .bool, b => [.bool b]
  | .str, s => [.str s]
  | .sl t, l => [.sl t l]
  | .unit, _ => []
  | .pair a b, x => explode a x.1 ++ explode b x.2
  | .st t, x => explode t x
def asSl (H : Hp) (t : Ty) : AV → Option (List t.den)
  | .sl t' l => castL? t' t l
  | .emp => some []
  | .all id _ _ => match H[id]? with
    | some (.arr t' l _) => castL? t' t l
    | _ => none
  | .own id _ off n => match H[id]? with
    | some (.arr t' l _) => castL? t' t ((l.drop off).take n)
    | _ => none
  | _ => none
def collapse (H : Hp) : (t : Ty) → List AV → Option (t.den × List AV)
  | .int k, .int k' x :: r => if k' = k then some (x, r) else none
  | .bool, .bool b :: r => some (b, r)
  | .str, .str s :: r => some (s, r)
  | .sl t, v :: r => match asSl H t v with
    | some l => some (l, r)
    | none => none
  | .unit, r => some ((), r)
  | .pair a b, cs => match collapse H a cs with
    | some (x, r) => match collapse H b r with
      | some (y, r') => some ((x, y), r')
      | none => none
    | none => none
  | .st t, cs => collapse H t cs
  | _, _ => none
def cellsOf : AV → List AV
  | .agg cs => cs
  | v => [v]
def solid0 : AV → Bool
  | .top | .agg _ | .tup _ | .raw (.agg _) | .raw (.tuple _) | .fn _ (_ :: _) => false
  | _ => true
def solid : AV → Bool
  | .agg cs => cs.all solid0
  | v => solid0 v
def shapeOk : Ty → AV → Bool
  | .st _, .agg _ => true
  | .st _, _ => false
  | _, .agg _ => false
  | _, _ => true
def asTy (H : Hp) (t : Ty) (v : AV) : Option t.den :=
  match solid v && shapeOk t v, collapse H t (cellsOf v) with
  | true, some (x, []) => some x
  | _, _ => none
def ownIds (cs : List AV) : List Nat := cs.filterMap fun | .all id _ _ => some id | .own id _ _ _ => some id | _ => none
def lend1 (H : Hp) (id : Nat) : Hp := H.modify id fun | .arr t l _ => .arr t l true | b => b
def lendAll (H : Hp) (ids : List Nat) : Hp := ids.foldl lend1 H
/-! #### the types of the program, as the evaluator sees them -/
inductive D where
  | int (k : IntKind) | bool | str | slice (e : TypeId) | array (n : Nat) (e : TypeId) | struct | ptr (e : TypeId) | map (k e : TypeId) | other
structure TI where
  d : D
  agg : Bool
  size : Nat
  bytes : Nat
  ty : Ty
  flds : List (Nat × Nat × Bool)
  zero : List AV
  own : Bool := false
inductive Act1 where
  | keep | whole (t : Ty) | give (t : Ty)
  | slf
  | frz (t : Ty)
inductive Bk where
  | arr (t : Ty)
  | var (T : TypeId) (fs : List (Ty × Bool))
structure FI where
  fn : Func
  cuts : List (Nat × List Nat × List (Nat × Option Nat × Act1))
  rts : List Ty
  own : Bool
  inl : Bool
  take : Bool
  back : List Bk
  ptr : Bool := false
inductive LibF where
  | trim | fmtInt | rep
abbrev u8T : TypeId := 5
inductive XT where
  | count | indexByte | compare
  | insert (t : Ty)
  | sort (t : Ty) (g : FuncId) (cf : t.den → t.den → Int)
  | lib (p : LibF)
  | chk (T : TypeId)
  | join
  | table
  | sortS
structure Env where
  fi : FuncId → Option FI
  xt : FuncId → Option XT
  ti : TypeId → TI
  glob : Nat → Option ((t : Ty) × t.den)
  tab : Nat → Option (Array Value) := fun _ => none
  eqT : TypeId → Option (List Ty) := fun _ => none
def ofConst1 : Value → AV
  | .int k x => .int k x
  | .bool b => .bool b
  | .string s => .str s
  | .slice none 0 0 => .emp
  | v => .raw v
def ofConst : Value → AV
  | .agg cs => .agg (cs.toList.map ofConst1)
  | v => ofConst1 v
def opnd (E : Env) (ts : List AV) : Operand → AV
  | .tmp t => ts.getD t .top
  | .const v => ofConst v
  | .func f => .fn f []
  | .global g => match E.glob g with
    | some ⟨t, x⟩ => .rptr t [x] 0 0
    | none => .top
def mkVal (agg : Bool) (cs : List AV) : AV := match agg with
  | true => .agg cs
  | false => cs.headD .top
def loadP (H : Hp) (agg : Bool) (size : Nat) : AV → Option AV
  | .ptr id i => match H[id]? with
    | some (.var T cs) => match (agg || size == 1) && Nat.ble (i + size) cs.length with
      | true => some (mkVal agg ((cs.drop i).take size))
      | false => none
    | _ => none
  | .eptr id i j => match H[id]? with
    | some (.arr t l _) => match (agg || size == 1) && Nat.ble (j + size) t.size with
      | true => some (mkVal agg (((explode t (nth t l i)).drop j).take size))
      | false => none
    | _ => none
  | .rptr t l i j => match (agg || size == 1) && Nat.ble (j + size) t.size with
    | true => some (mkVal agg (((explode t (nth t l i)).drop j).take size))
    | false => none
  | .aptr id _ n => match H[id]? with
    | some (.arr t l _) => match agg && Nat.beq size (n * t.size) && Nat.blt 0 n with
      | true => some (.agg (l.flatMap (explode t)))
      | false => none
    | _ => none
  | _ => none
def rowsOf (H : Hp) (t : Ty) : Nat → List AV → Option (List t.den)
  | 0, [] => some []
  | n + 1, cs => match collapse H t cs with
    | some (x, r) => match rowsOf H t n r with
      | some l => some (x :: l)
      | none => none
    | none => none
  | _, _ => none
def storeP (H : Hp) (size : Nat) (v : AV) : AV → Option Hp
  | .ptr id i => match H[id]? with
    | some (.var T cs) => match solid v && (cellsOf v).length == size && Nat.ble (i + size) cs.length with
      | true => some (H.set id (.var T (cs.take i ++ cellsOf v ++ cs.drop (i + size))))
      | false => none
    | _ => none
  | .eptr id i j => match H[id]? with
    | some (.arr t l false) => match solid v && (cellsOf v).length == size && Nat.ble (j + size) t.size with
      | false => none
      | true => match (ownIds (cellsOf v)).contains id, collapse H t ((explode t (nth t l i)).take j ++ cellsOf v ++ (explode t (nth t l i)).drop (j + size)) with
        | false, some (x, []) => some ((lendAll H (ownIds (cellsOf v))).set id (.arr t (l.set i x) false))
        | _, _ => none
    | _ => none
  | .aptr id _ n => match H[id]? with
    | some (.arr t l false) => match solid v && (cellsOf v).length == size && Nat.beq size (n * t.size) && !t.hasSl && Nat.blt 0 n, rowsOf [] t n (cellsOf v) with
      | true, some l' => some (H.set id (.arr t l' false))
      | _, _ => none
    | _ => none
  | _ => none
def lenOf : AV → Option Nat
  | .str s => some s.size
  | .sl _ l => some l.length
  | .emp => some 0
  | .all _ _ n => some n
  | .own _ _ _ n => some n
  | .raw (.slice none 0 0) => some 0
  | _ => none
def intOp {α : Type} (op : BinOp) (k : IntKind) (a b : Int) (K : AV → Option α) : Option α := match op with
  | .add => K (.int k (k.wrap (a + b)))
  | .sub => K (.int k (k.wrap (a - b)))
  | .mul => K (.int k (k.wrap (a * b)))
  | .quo => cond (decide (b = 0)) none (K (.int k (k.wrap (a.tdiv b))))
  | .rem => cond (decide (b = 0)) none (K (.int k (a.tmod b)))
  | .and => K (.int k (k.wrap (BitVec.ofInt k.bits a &&& BitVec.ofInt k.bits b).toNat))
  | .or => K (.int k (k.wrap (BitVec.ofInt k.bits a ||| BitVec.ofInt k.bits b).toNat))
  | .xor => K (.int k (k.wrap (BitVec.ofInt k.bits a ^^^ BitVec.ofInt k.bits b).toNat))
  | .andNot => K (.int k (k.wrap (BitVec.ofInt k.bits a &&& ~~~ BitVec.ofInt k.bits b).toNat))
  | .eql => K (.bool (a == b))
  | .neq => K (.bool (a != b))
  | .lss => K (.bool (decide (a < b)))
  | .leq => K (.bool (decide (a ≤ b)))
  | .gtr => K (.bool (decide (a > b)))
  | .geq => K (.bool (decide (a ≥ b)))
  | _ => none
def strOp {α : Type} (op : BinOp) (x y : ByteArray) (K : AV → Option α) : Option α := match op with
  | .add => cond (decide (x.size + y.size ≤ 9223372036854775807)) (K (.str (x ++ y))) none
  | .eql => K (.bool (x.toList == y.toList))
  | .neq => K (.bool !(x.toList == y.toList))
  | .lss => K (.bool (Op.bytesLess x.toList y.toList))
  | .leq => K (.bool (Op.bytesLess x.toList y.toList || x.toList == y.toList))
  | .gtr => K (.bool !(Op.bytesLess x.toList y.toList || x.toList == y.toList))
  | .geq => K (.bool !(Op.bytesLess x.toList y.toList))
  | _ => none
def strsOf : List AV → Option (List ByteArray)
  | [] => some []
  | .str s :: r => match strsOf r with
    | some l => some (s :: l)
    | none => none
  | _ :: _ => none
def joinO {α : Type} (a b : Option α) : Option α := open Classical in if a = b then a else none
def slLen0 : AV → Option Nat
  | .sl _ l => some l.length
  | .emp => some 0
  | .all _ _ n => some n
  | .own _ _ _ n => some n
  | _ => none
def nilK {α : Type} (x : AV) (eq : Bool) (K : AV → Option α) : Option α := match slLen0 x with
  | some n => cond (decide (n = 0)) (joinO (K (.bool true)) (K (.bool false))) (K (.bool !eq))
  | none => none
def eqF (l : List (Nat × List Ty)) (t : Nat) : Option (List Ty) := match l with
  | [] => none
  | p :: r => match Nat.beq p.1 t with
    | true => some p.2
    | false => eqF r t
def eqCell : Ty → AV → AV → Option Bool
  | .int k0, .int k a, .int k' b => match decide (k = k0) && decide (k' = k0) with
    | true => some (a == b)
    | false => none
  | .str, .str a, .str b => some (a.toList == b.toList)
  | .bool, .bool a, .bool b => some (a == b)
  | _, _, _ => none
def eqCells : List Ty → List AV → List AV → Option Bool
  | [t], [x], [y] => eqCell t x y
  | t :: ts, x :: r, y :: s => match eqCell t x y, eqCells ts r s with
    | some c, some d => some (c && d)
    | _, _ => none
  | _, _, _ => none
def binOpK {α : Type} (E : Env) (op : BinOp) (t : TypeId) (x y : AV) (K : AV → Option α) : Option α := match x, y with
  | .int k a, .int k' b => match op with
    | .shl => cond (decide (b < 0)) none (K (.int k (k.wrap (a * 2 ^ (min b.toNat k.bits)))))
    | .shr => cond (decide (b < 0)) none (K (.int k (a.fdiv (2 ^ (min b.toNat k.bits)))))
    | op => if k = k' then intOp op k a b K else none
  | .str a, .str b => strOp op a b K
  | .bool a, .bool b => match (E.ti t).d, op with
    | .bool, .eql => K (.bool (a == b))
    | .bool, .neq => K (.bool !(a == b))
    | _, _ => none
  | .agg xs, .agg ys => match E.eqT t, op with
    | some ts, .eql => match eqCells ts xs ys with
      | some b => K (.bool b)
      | none => none
    | some ts, .neq => match eqCells ts xs ys with
      | some b => K (.bool !b)
      | none => none
    | _, _ => none
  | _, _ => none
def bytesStr (l : List Int) : ByteArray := ⟨(l.map fun n => UInt8.ofNat n.toNat).toArray⟩
def strBytes (s : ByteArray) : List Int := s.toList.map fun b => (b.toNat : Int)
def convertK {α : Type} (E : Env) (src dst : TypeId) (x : AV) (H : Hp) (K : AV → Hp → Option α) : Option α :=
  match (E.ti src).d, (E.ti dst).d, x with
  | .int _, .int k, .int _ n => K (.int k (k.wrap n)) H
  | .str, .str, .str s => K (.str s) H
  | .slice e, .str, x => match (E.ti e).d, asSl H (.int .u8) x with
    | .int .u8, some l => K (.str (bytesStr l)) H
    | _, _ => none
  | _, _, _ => none
def boundsK {α : Type} (n : Nat) (lo hi : Option AV) (K : Nat → Nat → Option α) : Option α :=
  match hi with
  | none => match lo with
    | none => K 0 n
    | some (.int _ l) => cond (decide (0 ≤ l ∧ l ≤ (n : Int))) (K l.toNat n) none
    | some _ => none
  | some (.int _ h) => cond (decide (0 ≤ h ∧ h ≤ (n : Int))) (match lo with
    | none => K 0 h.toNat
    | some (.int _ l) => cond (decide (0 ≤ l ∧ l ≤ h)) (K l.toNat h.toNat) none
    | some _ => none) none
  | some _ => none
def sliceK {α : Type} (sz : Nat) (x : AV) (lo hi mx : Option AV) (K : AV → Option α) : Option α :=
  match mx with
  | some (.int _ 0) => match lo, hi with
    | none, some (.int _ 0) => match x with
      | .sl .. | .emp | .all .. | .own .. => K .emp
      | _ => none
    | _, _ => none
  | some _ => none
  | none => match x with
    | .sl t xs => match Nat.beq t.size sz with
      | true => boundsK xs.length lo hi fun l h => K (.sl t ((xs.take h).drop l))
      | false => none
    | .emp => boundsK 0 lo hi fun _ _ => K .emp
    | .all id s n => match Nat.beq s sz with
      | true => boundsK n lo hi fun a b => K (.own id s a (b - a))
      | false => none
    | .own id s off n => match Nat.beq s sz with
      | true => boundsK n lo hi fun a b => K (.own id s (off + a) (b - a))
      | false => none
    | _ => none
def widen (H : Hp) (hi : Bool) (x : AV) : AV := match x, hi with
  | .own id s off _, true => match H[id]? with
    | some (.arr _ l _) => .own id s off (l.length - off)
    | _ => .top
  | x, _ => x
def slLen : AV → Option Nat
  | .sl _ l => some l.length
  | .emp => some 0
  | .all _ _ n => some n
  | .own _ _ _ n => some n
  | _ => none
def threeK {α : Type} (x : AV) (lo hi : Option AV) (mx : AV) (K : AV → Option α) : Option α := match slLen x, lo, hi, mx with
  | some n, none, some (.int _ h), .int _ m => cond (decide (0 ≤ h ∧ h ≤ m ∧ m ≤ (n : Int))) (K .top) none
  | some n, some (.int _ l), some (.int _ h), .int _ m => cond (decide (0 ≤ l ∧ l ≤ h ∧ h ≤ m ∧ m ≤ (n : Int))) (K .top) none
  | _, _, _, _ => none
def fieldPtr (off : Nat) : AV → Option AV
  | .ptr id i => some (.ptr id (i + off))
  | .eptr id i j => some (.eptr id i (j + off))
  | .rptr t l i j => some (.rptr t l i (j + off))
  | _ => none
def idxK {α : Type} (sz : Nat) (x : AV) (i : Int) (K : AV → Option α) : Option α := match x with
  | .sl t l => match Nat.beq t.size sz with
    | true => cond (decide (0 ≤ i ∧ i < (l.length : Int))) (K (.rptr t l i.toNat 0)) none
    | false => none
  | .all id s n => match Nat.beq s sz with
    | true => cond (decide (0 ≤ i ∧ i < (n : Int))) (K (.eptr id i.toNat 0)) none
    | false => none
  | .own id s off n => match Nat.beq s sz with
    | true => cond (decide (0 ≤ i ∧ i < (n : Int))) (K (.eptr id (off + i.toNat) 0)) none
    | false => none
  | _ => none
def fillCells (flds : List (Nat × Nat × Bool)) (ρ : Operand → AV) : List (Nat × Operand) → List AV → Option (List AV)
  | [], cs => some cs
  | (i, x) :: r, cs => match flds[i]? with
    | some (off, size, _) => match solid (ρ x) && (cellsOf (ρ x)).length == size && Nat.ble (off + size) cs.length with
      | true => fillCells flds ρ r (cs.take off ++ cellsOf (ρ x) ++ cs.drop (off + size))
      | false => none
    | none => none
def arrF (n size : Nat) (agg : Bool) : List (Nat × Nat × Bool) := (List.range n).map fun i => (i * size, size, agg)
def fillElems {α : Type} : List (Nat × α) → List α → List α
  | [], l => l
  | (i, x) :: r, l => fillElems r (l.set i x)
def partsTy (H : Hp) (t : Ty) (ρ : Operand → AV) : List (Nat × Operand) → Option (List (Nat × t.den))
  | [] => some []
  | (i, x) :: r => match asTy H t (ρ x) with
    | some v => match partsTy H t ρ r with
      | some l => some ((i, v) :: l)
      | none => none
    | none => none
def byteAt (s : ByteArray) (i : Nat) : Int := ((s.data.toList.getD i 0).toNat : Int)
def nilChk : AV → Bool
  | .ptr .. | .eptr .. | .rptr .. | .aptr .. | .fn .. => true
  | _ => false
def noU8 : Ty → Bool
  | .int .u8 => false
  | _ => true
def arrK {α : Type} (sz : Nat) (t : Ty) (n : Nat) (cs : List AV) (H : Hp) (K : AV → Hp → Option α) : Option α := match noU8 t && !t.hasSl && Nat.beq sz t.size && Nat.blt 0 n, rowsOf H t n cs with
  | true, some l => K (.aptr H.length t.size n) (H ++ [.arr t l false])
  | _, _ => none
def idxA {α : Type} (n0 sz : Nat) (x : AV) (i : Int) (K : AV → Option α) : Option α := match x with
  | .aptr id s n => match Nat.beq s sz && Nat.beq n n0 with
    | true => cond (decide (0 ≤ i ∧ i < (n0 : Int))) (K (.eptr id i.toNat 0)) none
    | false => none
  | _ => none
def mGet : List (ByteArray × Bool) → ByteArray → Bool
  | [], _ => false
  | p :: r, s => cond (s.toList == p.1.toList) p.2 (mGet r s)
def mPut : List (ByteArray × Bool) → ByteArray → Bool → List (ByteArray × Bool)
  | [], s, b => [(s, b)]
  | p :: r, s, b => cond (s.toList == p.1.toList) ((s, b) :: r) (p :: mPut r s b)
def opK {α : Type} (E : Env) (o : Op) (ρ : Operand → AV) (H : Hp) (K : AV → Hp → Option α) : Option α := match o with
  | .move x | .assign x => K (ρ x) H
  | .pick c a b => match ρ c with
    | .bool c => cond c (K (ρ a) H) (K (ρ b) H)
    | _ => none
  | .alloc t => match (E.ti t).d with
    | .array n e => match (E.ti t).zero.length == (E.ti t).size with
      | true => arrK (E.ti e).size (E.ti e).ty n (E.ti t).zero H K
      | false => none
    | _ => match (E.ti t).zero.length == (E.ti t).size with
      | true => K (.ptr H.length 0) (H ++ [.var t (E.ti t).zero])
      | false => none
  | .box t x => match (E.ti t).d with
    | .array n e => match solid (ρ x) && (cellsOf (ρ x)).length == (E.ti t).size with
      | true => arrK (E.ti e).size (E.ti e).ty n (cellsOf (ρ x)) H K
      | false => none
    | _ => match solid (ρ x) && (cellsOf (ρ x)).length == (E.ti t).size with
      | true => K (.ptr H.length 0) (H ++ [.var t (cellsOf (ρ x))])
      | false => none
  | .build t parts => match (E.ti t).d, (E.ti t).zero.length == (E.ti t).size with
    | .struct, true => match fillCells (E.ti t).flds ρ parts.toList (E.ti t).zero with
      | some cs => K (.agg cs) H
      | none => none
    | .array n e, true => match Nat.blt (E.ti e).size 1000000000, fillCells (arrF n (E.ti e).size (E.ti e).agg) ρ parts.toList (E.ti t).zero with
      | true, some cs => K (.agg cs) H
      | _, _ => none
    | _, _ => none
  | .buildSlice t len parts => match (E.ti t).d with
    | .slice e => match partsTy H (E.ti e).ty ρ parts.toList, (parts.toList.all fun p => Nat.blt p.1 len) && Nat.ble (len * (E.ti e).ty.size) 16777216 with
      | some ps, true => match len with
        | 0 => K (.all H.length (E.ti e).ty.size 0) (H ++ [.arr (E.ti e).ty [] false])
        | _ => match (E.ti t).own with
          | true => K (.all H.length (E.ti e).ty.size len) (lendAll H (ownIds (parts.toList.flatMap fun p => cellsOf (ρ p.2))) ++ [.arr (E.ti e).ty (fillElems ps (List.replicate len (E.ti e).ty.dft)) false])
          | false => K (.sl (E.ti e).ty (fillElems ps (List.replicate len (E.ti e).ty.dft))) (lendAll H (ownIds (parts.toList.flatMap fun p => cellsOf (ρ p.2))))
      | _, _ => none
    | _ => none
  | .load t a => match Nat.blt (E.ti t).size 1000000000, loadP H (E.ti t).agg (E.ti t).size (ρ a) with
    | true, some v => K v H
    | _, _ => none
  | .store t a x => match Nat.blt (E.ti t).size 1000000000, storeP H (E.ti t).size (ρ x) (ρ a) with
    | true, some H' => K .top H'
    | _, _ => none
  | .nilCheck x => match nilChk (ρ x) with
    | true => K (ρ x) H
    | false => none
  | .binOp op t x y _ => match y with
    | .const (.slice none 0 0) => match (E.ti t).d, op with
      | .slice _, .eql => nilK (ρ x) true (K · H)
      | .slice _, .neq => nilK (ρ x) false (K · H)
      | _, _ => none
    | y => binOpK E op t (ρ x) (ρ y) (K · H)
  | .unOp op _ x => match op, ρ x with
    | .not, .bool b => K (.bool !b) H
    | .neg, .int k n => K (.int k (k.wrap (0 - n))) H
    | _, _ => none
  | .convert s d x => convertK E s d (ρ x) H K
  | .makeInterface t _ => match (E.ti t).d with
    | .str | .int _ | .bool => K .top H
    | _ => none
  | .makeFunc fn first captured => match fn, first.toList, (captured.toList.map ρ).all solid0 with
    | .func f, [], true => K (.fn f (captured.toList.map ρ)) H
    | _, _, _ => none
  | .makeSlice t l c => match (E.ti t).d, ρ l, ρ c with
    | .slice e, .int _ l, .int _ c =>
      cond (decide (0 ≤ l ∧ l ≤ c ∧ c < 4294967296)) (K (.all H.length (E.ti e).ty.size (List.replicate l.toNat (E.ti e).ty.dft).length) (H ++ [.arr (E.ti e).ty (List.replicate l.toNat (E.ti e).ty.dft) false])) none
    | _, _, _ => none
  | .slice t x lo hi mx => match (E.ti t).d with
    | .slice e => match mx with
      | none => sliceK (E.ti e).size (widen H (hi.map ρ).isSome (ρ x)) (lo.map ρ) (hi.map ρ) none (K · H)
      | some (.const m) => sliceK (E.ti e).size (ρ x) (lo.map ρ) (hi.map ρ) (some (ρ (.const m))) (K · H)
      | some m => threeK (ρ x) (lo.map ρ) (hi.map ρ) (ρ m) (K · H)
    | .str => match ρ x, mx with
      | .str s, none => boundsK s.size (lo.map ρ) (hi.map ρ) fun l h => K (.str (s.extract l h)) H
      | _, _ => none
    | _ => none
  | .fieldAddr s x f => match (E.ti s).flds[f]? with
    | some (off, size, _) => match Nat.blt 0 size, fieldPtr off (ρ x) with
      | true, some p => K p H
      | _, _ => none
    | none => none
  | .field s x f => match (E.ti s).flds[f]?, ρ x with
    | some (off, size, agg), .agg cs => match (agg || size == 1) && Nat.ble (off + size) cs.length with
      | true => K (mkVal agg ((cs.drop off).take size)) H
      | false => none
    | _, _ => none
  | .indexAddr t x i => match (E.ti t).d, ρ i with
    | .slice e, .int _ i => idxK (E.ti e).size (ρ x) i (K · H)
    | .array n e, .int _ i => idxA n (E.ti e).size (ρ x) i (K · H)
    | _, _ => none
  | .index t x i => match (E.ti t).d, ρ x, ρ i with
    | .str, .str s, .int _ i => cond (decide (0 ≤ i ∧ i < (s.size : Int))) (K (.int .u8 (byteAt s i.toNat)) H) none
    | .array n e, .agg cs, .int _ i => match (E.ti e).agg, Nat.beq (E.ti e).size 1, strsOf cs with
      | false, true, some l => cond (decide (0 ≤ i ∧ i < (l.length : Int) ∧ i < (n : Int))) (K (.str (nth .str l i.toNat)) H) none
      | _, _, _ => match !(E.ti e).ty.hasSl && Nat.beq (E.ti e).size (E.ti e).ty.size && ((E.ti e).agg || (E.ti e).size == 1) && Nat.blt (E.ti e).size 1000000000, rowsOf [] (E.ti e).ty n cs with
        | true, some l => cond (decide (0 ≤ i ∧ i < (n : Int))) (K (mkVal (E.ti e).agg (explode (E.ti e).ty (nth (E.ti e).ty l i.toNat))) H) none
        | _, _ => none
    | _, _, _ => none
  | .extract t i => match ρ t with
    | .tup vs => match vs[i]? with
      | some v => K v H
      | none => none
    | _ => none
  | .makeMap t none => match (E.ti t).d with
    | .map _ _ => K (.mp H.length) (H ++ [.mp []])
    | _ => none
  | .lookup t x i false => match (E.ti t).d with
    | .map k e => match (E.ti k).d, (E.ti e).d, ρ i, ρ x with
      | .str, .bool, .str s, .mp id => match H[id]? with
        | some (.mp m) => K (.bool (mGet m s)) H
        | _ => none
      | _, _, _, _ => none
    | _ => none
  | .mapUpdate t x i v => match (E.ti t).d with
    | .map k _ => match (E.ti k).d, ρ i, ρ v, ρ x with
      | .str, .str s, .bool b, .mp id => match H[id]? with
        | some (.mp m) => K .top (H.set id (.mp (mPut m s b)))
        | _ => none
      | _, _, _, _ => none
    | _ => none
  | _ => none
def splice {β : Type} (l : List β) (off : Nat) (ys : List β) : List β := l.take off ++ ys ++ l.drop (off + ys.length)
def appendK {α : Type} (t : Ty) (s x : AV) (H : Hp) (K : AV → Hp → Option α) : Option α :=
  match asSl H t x with
  | none => none
  | some xs => match s with
    | .emp => cond (decide (xs.length < 4294967296)) (K (.all H.length t.size xs.length) (H ++ [.arr t xs false])) none
    | .all id _ _ => match H[id]? with
      | some (.arr t' l b) => match castL? t' t l with
        | some l => cond (decide (l.length + xs.length < 4294967296)) (K (.all H.length t.size (l ++ xs).length) (H.set id .dead ++ [.arr t (l ++ xs) b])) none
        | none => none
      | _ => none
    | .own id _ off n => match H[id]? with
      | some (.arr t' l false) => match castL? t' t l with
        | some l => cond (decide (off + n + xs.length ≤ l.length)) (K (.own id t.size off (n + xs.length)) (H.set id (.arr t (splice l (off + n) xs) false)))
          (cond (decide (n + xs.length < 4294967296)) (K (.all H.length t.size ((l.drop off).take n ++ xs).length) (H.set id .dead ++ [.arr t ((l.drop off).take n ++ xs) false])) none)
        | none => none
      | _ => none
    | _ => none
def appendL {α : Type} (t : Ty) (s : AV) (xs : List t.den) (H : Hp) (K : AV → Hp → Option α) : Option α := match s with
    | .emp => cond (decide (xs.length < 4294967296)) (K (.all H.length t.size xs.length) (H ++ [.arr t xs false])) none
    | .all id _ _ => match H[id]? with
      | some (.arr t' l b) => match castL? t' t l with
        | some l => cond (decide (l.length + xs.length < 4294967296)) (K (.all H.length t.size (l ++ xs).length) (H.set id .dead ++ [.arr t (l ++ xs) b])) none
        | none => none
      | _ => none
    | .own id _ off n => match H[id]? with
      | some (.arr t' l false) => match castL? t' t l with
        | some l => cond (decide (off + n + xs.length ≤ l.length)) (K (.own id t.size off (n + xs.length)) (H.set id (.arr t (splice l (off + n) xs) false)))
          (cond (decide (n + xs.length < 4294967296)) (K (.all H.length t.size ((l.drop off).take n ++ xs).length) (H.set id .dead ++ [.arr t ((l.drop off).take n ++ xs) false])) none)
        | none => none
      | _ => none
    | _ => none
def nilS : AV → AV
  | .raw (.slice none 0 0) => .emp
  | s => s
def sliceDataK {α : Type} (x : AV) (H : Hp) (K : AV → Hp → Option α) : Option α := match x with
  | .raw (.slice none 0 0) => K (.raw (.pointer none)) H
  | .all id _ n => cond (decide (0 < n)) (K (.eptr id 0 0) H) none
  | _ => none
def ustrK {α : Type} (E : Env) (pt : TypeId) (p : AV) (n : Int) (H : Hp) (K : AV → Hp → Option α) : Option α := match (E.ti pt).d with
  | .ptr e => match Nat.beq e u8T && Nat.beq (E.ti u8T).size 1 with
    | true => match p with
      | .raw (.pointer none) => cond (decide (n = 0)) (K (.str ByteArray.empty) H) none
      | .eptr id 0 0 => match H[id]? with
        | some (.arr t l false) => match castL? t (.int .u8) l with
          | some l => cond (decide (n = (l.length : Int) ∧ 0 < l.length ∧ l.length < 4294967296)) (K (.str (bytesStr l)) (H.set id .dead)) none
          | none => none
        | _ => none
      | _ => none
    | false => none
  | _ => none
def clearK {α : Type} (t : Ty) (x : AV) (H : Hp) (K : AV → Hp → Option α) : Option α := match x with
  | .emp => K .top H
  | .all id _ n => match H[id]? with
    | some (.arr t' l false) => match castL? t' t l with
      | some l => K .top (H.set id (.arr t (splice l 0 (List.replicate n t.dft)) false))
      | none => none
    | _ => none
  | .own id _ off n => match H[id]? with
    | some (.arr t' l false) => match castL? t' t l with
      | some l => K .top (H.set id (.arr t (splice l off (List.replicate n t.dft)) false))
      | none => none
    | _ => none
  | _ => none
def minMaxK {α : Type} (mx : Bool) (vs : List AV) (K : AV → Option α) : Option α := match vs with
  | [.int k x, .int k' y] => if k = k' then K (.int k (match mx with | true => if y > x then y else x | false => if y < x then y else x)) else none
  | _ => none
def builtinK {α : Type} (E : Env) (b : Builtin) (argTypes : Array TypeId) (args : List AV) (H : Hp) (K : AV → Hp → Option α) : Option α := match b, args with
  | .len, [x] => match argTypes.toList with
    | [t] => match lenOf x with
      | some n => match (E.ti t).d with
        | .str => match x with
          | .str _ => K (.int .i64 (n : Int)) H
          | _ => none
        | .slice _ => match x with
          | .str _ => none
          | _ => K (.int .i64 (n : Int)) H
        | _ => none
      | none => none
    | _ => none
  | .append, [s, x] => match argTypes.toList with
    | [a, b] => match (E.ti a).d, (E.ti b).d with
      | .slice e, .slice _ => appendK (E.ti e).ty s x H K
      | .slice e, .str => match (E.ti e).ty, x with
        | .int .u8, .str b => appendL (.int .u8) (nilS s) (strBytes b) H K
        | _, _ => none
      | _, _ => none
    | _ => none
  | .clear, [x] => match argTypes.toList with
    | [t] => match (E.ti t).d with
      | .slice e => clearK (E.ti e).ty x H K
      | _ => none
    | _ => none
  | .unsafeSliceData, [x] => sliceDataK x H K
  | .unsafeString, [p, .int .i64 n] => match argTypes.toList with
    | [pt, _] => ustrK E pt p n H K
    | _ => none
  | .min, vs => minMaxK false vs (K · H)
  | .max, vs => minMaxK true vs (K · H)
  | _, _ => none
/-! #### calls: what of the memory goes along, and what comes back -/
def leafIds : AV → List Nat
  | .all id _ _ | .own id _ _ _ | .ptr id _ | .eptr id _ _ | .aptr id _ _ | .slf id | .mp id => [id]
  | _ => []
def ids0 : AV → List Nat
  | .agg cs | .fn _ cs => cs.flatMap leafIds
  | v => leafIds v
def ids1 : AV → List Nat
  | .tup vs => vs.flatMap ids0
  | v => ids0 v
def blkIds : Blk → List Nat
  | .var _ cs => cs.flatMap ids0
  | _ => []
def ren0 (σ : Nat → Option Nat) : AV → AV
  | .all id s n => match σ id with | some j => .all j s n | none => .top
  | .own id s off n => match σ id with | some j => .own j s off n | none => .top
  | .ptr id i => match σ id with | some j => .ptr j i | none => .top
  | .eptr id i j => match σ id with | some k => .eptr k i j | none => .top
  | .aptr id s n => match σ id with | some j => .aptr j s n | none => .top
  | .slf id => match σ id with | some j => .slf j | none => .top
  | .mp id => match σ id with | some j => .mp j | none => .top
  | .agg _ | .tup _ | .fn _ _ => .top
  | v => v
def ren1 (σ : Nat → Option Nat) : AV → AV
  | .agg cs => .agg (cs.map (ren0 σ))
  | .fn f cs => .fn f (cs.map (ren0 σ))
  | v => ren0 σ v
def ren2 (σ : Nat → Option Nat) : AV → AV
  | .tup vs => .tup (vs.map (ren1 σ))
  | v => ren1 σ v
def renB (σ : Nat → Option Nat) : Blk → Blk
  | .var T cs => .var T (cs.map (ren1 σ))
  | b => b
def addNew (acc : List Nat) : List Nat → List Nat
  | [] => acc
  | i :: r => addNew (match acc.contains i with | true => acc | false => acc ++ [i]) r
def closure (H : Hp) : Nat → List Nat → List Nat
  | 0, acc => acc
  | n + 1, acc => closure H n (addNew acc (acc.flatMap fun i => match H[i]? with | some b => blkIds b | none => []))
def sigma (π : List Nat) (i : Nat) : Option Nat := π.idxOf? i
def pickH (H : Hp) (π : List Nat) : Hp := π.map fun i => renB (sigma π) (H.getD i .dead)
def lendV (H : Hp) : AV → AV
  | .all id _ _ => match H[id]? with
    | some (.arr t l _) => .sl t l
    | _ => .top
  | .own id _ off n => match H[id]? with
    | some (.arr t l _) => .sl t ((l.drop off).take n)
    | _ => .top
  | .ptr .. => .top
  | .eptr .. => .top
  | .aptr .. => .top
  | .slf .. => .top
  | .mp .. => .top
  | v => v
def capV : AV → AV
  | .all .. => .top
  | .own .. => .top
  | .ptr .. => .top
  | .eptr .. => .top
  | .aptr .. => .top
  | .slf .. => .top
  | .mp .. => .top
  | v => v
def lendArg (H : Hp) : AV → AV
  | .agg cs => .agg (cs.map (lendV H))
  | .fn f cs => .fn f (cs.map capV)
  | .tup _ => .top
  | v => lendV H v
def toAV : (t : Ty) → t.den → AV
  | .st t, x => .agg (explode t x)
  | .int k, x => .int k x
  | .bool, x => .bool x
  | .str, x => .str x
  | .sl t, x => .sl t x
  | .unit, _ => .top
  | .pair _ _, _ => .top
def ownCells : (t : Ty) → t.den → Nat → List AV × Hp
  | .sl t, l, b => ([.all b t.size l.length], [.arr t l false])
  | .pair s t, x, b => ((ownCells s x.1 b).1 ++ (ownCells t x.2 (b + (ownCells s x.1 b).2.length)).1,
      (ownCells s x.1 b).2 ++ (ownCells t x.2 (b + (ownCells s x.1 b).2.length)).2)
  | .st t, x, b => ownCells t x b
  | t, x, _ => (explode t x, [])
def ownVal : (t : Ty) → t.den → Nat → AV × Hp
  | .st t, x, b => (.agg (ownCells t x b).1, (ownCells t x b).2)
  | .sl t, l, b => (.all b t.size l.length, [.arr t l false])
  | .int k, x, _ => (.int k x, [])
  | .bool, x, _ => (.bool x, [])
  | .str, x, _ => (.str x, [])
  | .unit, _, _ => (.top, [])
  | .pair _ _, _, _ => (.top, [])
@[reducible] def retTy : List Ty → Ty
  | [] => .unit
  | [t] => t
  | t :: ts => .pair t (retTy ts)
def decTup (H : Hp) : (ts : List Ty) → List AV → Option (retTy ts).den
  | [], [] => some ()
  | [t], [v] => asTy H t v
  | t :: u :: ts, v :: vs => match asTy H t v with
    | some x => match decTup H (u :: ts) vs with
      | some y => some (x, y)
      | none => none
    | none => none
  | _, _ => none
def decRet (ts : List Ty) (o : AV × Hp) : Option (retTy ts).den := match ts, o.1 with
  | [t], v => asTy o.2 t v
  | ts, .tup vs => decTup o.2 ts vs
  | _, _ => none
def retVals : (own : Bool) → (ts : List Ty) → (retTy ts).den → Nat → List AV × Hp
  | _, [], _, _ => ([], [])
  | false, [t], x, _ => ([toAV t x], [])
  | true, [t], x, b => ([(ownVal t x b).1], (ownVal t x b).2)
  | false, t :: u :: ts, x, b => (toAV t x.1 :: (retVals false (u :: ts) x.2 b).1, [])
  | true, t :: u :: ts, x, b => ((ownVal t x.1 b).1 :: (retVals true (u :: ts) x.2 (b + (ownVal t x.1 b).2.length)).1,
      (ownVal t x.1 b).2 ++ (retVals true (u :: ts) x.2 (b + (ownVal t x.1 b).2.length)).2)
def one (vs : List AV) : AV := match vs with
  | [v] => v
  | vs => .tup vs
def Ty.deepSl : Ty → Bool
  | .sl t => t.hasSl
  | .pair a b => a.deepSl || b.deepSl
  | .st t => t.deepSl
  | _ => false
def shares (own : Bool) (ts : List Ty) : Bool := match own with
  | false => ts.any Ty.hasSl
  | true => ts.any Ty.deepSl
def afterCall (own : Bool) (ts : List Ty) (args : List AV) (H : Hp) : Hp := match shares own ts with
  | true => lendAll H (args.flatMap fun v => ownIds (cellsOf v))
  | false => H
def isArr (H : Hp) (id : Nat) : Bool := match H[id]? with
  | some (.arr ..) => true
  | _ => false
def argsOk (H : Hp) (args : List AV) : Bool := (args.flatMap fun v => ownIds (cellsOf v)).all (isArr H)
inductive Job where
  | call (args : List AV) (H : Hp)
  | cut (todo : List Item) (ts : List AV) (H : Hp)
@[reducible] def rtsOf (E : Env) (f : FuncId) : List Ty := match E.fi f with
  | some fi => fi.rts
  | none => []
@[reducible] def backOf (E : Env) (f : FuncId) : List Bk := match E.fi f with
  | some fi => fi.back
  | none => []
@[reducible] def cellTy : List (Ty × Bool) → Ty
  | [] => .unit
  | p :: r => .pair p.1 (cellTy r)
@[reducible] def bkTy : Bk → Ty
  | .arr t => .sl t
  | .var _ fs => .st (cellTy fs)
@[reducible] def slTys : List Bk → List Ty
  | [] => []
  | b :: r => bkTy b :: slTys r
@[reducible] def RetT (rts : List Ty) : List Bk → Type
  | [] => (retTy rts).den
  | b :: bs => (retTy rts).den × (retTy (slTys (b :: bs))).den
@[reducible] def Ret (E : Env) (f : FuncId) : Type := RetT (rtsOf E f) (backOf E f)
def rFst (rts : List Ty) : (back : List Bk) → RetT rts back → (retTy rts).den
  | [], x => x
  | _ :: _, x => x.1
def rSnd (rts : List Ty) : (back : List Bk) → RetT rts back → (retTy (slTys back)).den
  | [], _ => ()
  | _ :: _, x => x.2
def rMk (rts : List Ty) : (back : List Bk) → (retTy rts).den → (retTy (slTys back)).den → RetT rts back
  | [], x, _ => x
  | _ :: _, x, y => (x, y)
def blkL (H : Hp) (t : Ty) (i : Nat) : Option (List t.den) := match H[i]? with
  | some (.arr t' l false) => castL? t' t l
  | _ => none
def flagsOk : List (Ty × Bool) → List AV → Bool
  | [], [] => true
  | p :: r, c :: cs => (match p.1, p.2, c with
    | .sl _, true, .all _ _ _ => true
    | .sl _, false, .sl _ _ => true
    | .int _, _, .int _ _ => true
    | .bool, _, .bool _ => true
    | .str, _, .str _ => true
    | _, _, _ => false) && flagsOk r cs
  | _, _ => false
def decOne (H : Hp) (i : Nat) : (k : Bk) → Option (bkTy k).den
  | .arr t => blkL H t i
  | .var T fs => match H[i]? with
    | some (.var T' cs) => match Nat.beq T' T && flagsOk fs cs, collapse H (cellTy fs) cs with
      | true, some (x, []) => some x
      | _, _ => none
    | _ => none
def decBack (H : Hp) : Nat → (back : List Bk) → Option (retTy (slTys back)).den
  | _, [] => some ()
  | i, [t] => decOne H i t
  | i, t :: u :: r => match decOne H i t with
    | some x => match decBack H (i + 1) (u :: r) with
      | some y => some (x, y)
      | none => none
    | none => none
def bkCells : (fs : List (Ty × Bool)) → (cellTy fs).den → Nat → List AV × Hp
  | [], _, _ => ([], [])
  | (t, true) :: r, x, b => ((ownCells t x.1 b).1 ++ (bkCells r x.2 (b + (ownCells t x.1 b).2.length)).1, (ownCells t x.1 b).2 ++ (bkCells r x.2 (b + (ownCells t x.1 b).2.length)).2)
  | (t, false) :: r, x, b => (explode t x.1 ++ (bkCells r x.2 b).1, (bkCells r x.2 b).2)
def bkOne : (k : Bk) → (bkTy k).den → Nat → Blk × Hp
  | .arr t, l, _ => (.arr t l false, [])
  | .var T fs, x, b => (.var T (bkCells fs x b).1, (bkCells fs x b).2)
def backBlks : (back : List Bk) → (retTy (slTys back)).den → Nat → Hp × Hp
  | [], _, _ => ([], [])
  | [k], x, b => ([(bkOne k x b).1], (bkOne k x b).2)
  | k :: k' :: r, x, b => ((bkOne k x.1 b).1 :: (backBlks (k' :: r) x.2 (b + (bkOne k x.1 b).2.length)).1, (bkOne k x.1 b).2 ++ (backBlks (k' :: r) x.2 (b + (bkOne k x.1 b).2.length)).2)
/-! #### calls that take own slices and variables -/
def freeArr (H : Hp) (id : Nat) : Bool := match H[id]? with
  | some (.arr _ _ false) => true
  | _ => false
def topIds (cs : List AV) : List Nat := cs.filterMap fun | .all id _ _ => some id | .own id _ _ _ => some id | .ptr id 0 => some id | _ => none
def takeIds (args : List AV) : List Nat := args.flatMap fun v => topIds (cellsOf v)
def innerIds (H : Hp) : List Nat → List Bk → List Nat
  | id :: r, .var _ _ :: bs => (match H[id]? with
    | some (.var _ cs) => ownIds cs
    | _ => []) ++ innerIds H r bs
  | _ :: r, .arr _ :: bs => innerIds H r bs
  | _, _ => []
def itemOk (H : Hp) (id : Nat) : Bk → Bool
  | .arr _ => freeArr H id
  | .var T fs => match H[id]? with
    | some (.var T' cs) => Nat.beq T' T && flagsOk fs cs
    | _ => false
def itemsOk (H : Hp) : List Nat → List Bk → Bool
  | [], [] => true
  | i :: r, b :: bs => itemOk H i b && itemsOk H r bs
  | _, _ => false
def nodupB (l : List Nat) : Bool := Nat.beq l.length (addNew [] l).length
def takeOk (H : Hp) (ids inner : List Nat) (back : List Bk) : Bool := (match back with
  | [] => ids.all (freeArr H)
  | _ :: _ => itemsOk H ids back) && (inner.all (freeArr H) && nodupB (ids ++ inner))
def takeV (H : Hp) (ids : List Nat) : AV → AV
  | .all id s _ => match sigma ids id, H[id]? with
    | some j, some (.arr _ l _) => .all j s l.length
    | _, _ => .top
  | .own id s off n => match sigma ids id with
    | some j => .own j s off n
    | none => .top
  | .ptr id i => match sigma ids id with
    | some j => .ptr j i
    | none => .top
  | .eptr .. => .top
  | .aptr .. => .top
  | .slf .. => .top
  | .mp .. => .top
  | v => v
def takeArg (H : Hp) (ids : List Nat) : AV → AV
  | .agg cs => .agg (cs.map (takeV H ids))
  | .fn f cs => .fn f (cs.map capV)
  | .tup _ => .top
  | v => takeV H ids v
def setBack (H : Hp) : List Nat → Hp → Hp
  | [], _ => H
  | i :: r, [] => setBack (H.set i .dead) r []
  | i :: r, b :: bs => setBack (H.set i b) r bs
def put (ts : List AV) (d : Option Tmp) (v : AV) : List AV := match d with
  | some d => ts.set d v
  | none => ts
def guardOf {α : Type} (ops : Array Oper) (ts : List AV) (o : Oper) (yes no : Option α) : Option α := match o.guard with
  | none => yes
  | some (j, want) => match (ops[j]?).bind (·.dst) with
    | some d => match ts.getD d .top with
      | .bool b => cond (b == want) yes no
      | .raw (.tuple _) => no
      | _ => none
    | none => none
def guardS {α : Type} (ops : Array Oper) (ts : List AV) (o : Oper) (yes no : List AV → Option α) : Option α := match o.guard with
  | none => yes ts
  | some (j, want) => match (ops[j]?).bind (·.dst) with
    | some d => match ts.getD d .top with
      | .bool b => cond (b == want) (yes (ts.set d (.bool want))) (no (ts.set d (.bool !want)))
      | .raw (.tuple _) => no ts
      | _ => none
    | none => none
def liveIds (live : List Nat) (ts : List AV) : List Nat := live.flatMap fun i => ids1 (ts.getD i .top)
def cutPi (H : Hp) (m : Nat) (vs : List Nat) : List Nat := closure H 3 (addNew (List.range m) vs)
def cutTs (live : List Nat) (π : List Nat) : Nat → List AV → List AV
  | _, [] => []
  | i, v :: r => (match live.contains i with | true => ren2 (sigma π) v | false => .top) :: cutTs live π (i + 1) r
/-! #### cuts -/
def mkWhole (t : Ty) (H : Hp) : AV → Option (AV × Hp)
  | .emp => some (.all H.length t.size 0, H ++ [.arr t [] false])
  | .all id s n => some (.all id s n, H)
  | .own id _ off n => match H[id]? with
    | some (.arr t' l false) => some (.all H.length t'.size ((l.drop off).take n).length, H.set id .dead ++ [.arr t' ((l.drop off).take n) false])
    | _ => none
  | _ => none
def mkGive (t : Ty) (H : Hp) (v : AV) : Option (AV × Hp) := match asSl H t v with
  | some l => some (.sl t l, lendAll H (ownIds [v]))
  | none => none
def mkFrz (t : Ty) (H : Hp) (v : AV) : Option (AV × Hp) := match v with
  | .ptr id 0 => match H[id]? with
    | some (.var _ cs) => match collapse H t cs with
      | some (x, []) => some (.rptr t [x] 0 0, (lendAll H (ownIds cs)).set id .dead)
      | _ => none
    | _ => none
  | .rptr t l i j => some (.rptr t l i j, H)
  | _ => none
def act1 (a : Act1) (H : Hp) (v : AV) : Option (AV × Hp) := match a with
  | .keep => some (v, H)
  | .whole t => mkWhole t H v
  | .give t => mkGive t H v
  | .slf => none
  | .frz t => mkFrz t H v
def act2 (id : Nat) (a : Act1) (H : Hp) (v : AV) : Option (AV × Hp) := match a with
  | .keep => some (v, H)
  | .whole t => mkWhole t H v
  | .give t => mkGive t H v
  | .slf => match v with
    | .raw (.pointer none) => some (.slf id, H)
    | .slf i => match Nat.beq i id with
      | true => some (.slf id, H)
      | false => none
    | .ptr i 0 => match Nat.beq i id with
      | true => some (.slf id, H)
      | false => none
    | _ => none
  | .frz _ => none
def acts : List (Nat × Option Nat × Act1) → List AV → Hp → Option (List AV × Hp)
  | [], ts, H => some (ts, H)
  | (s, none, a) :: r, ts, H => match act1 a H (ts.getD s .top) with
    | some (v, H') => acts r (ts.set s v) H'
    | none => none
  | (s, some c, a) :: r, ts, H => match ts.getD s .top with
    | .ptr id _ => match H[id]? with
      | some (.var T cs) => match act2 id a H (cs.getD c .top) with
        | some (v, H') => match H'[id]? with
          | some (.var T cs) => acts r ts (H'.set id (.var T (cs.set c v)))
          | _ => none
        | none => none
      | _ => none
    | _ => none
def cellActs (s : Nat) : Nat → List (Ty × Bool) → List (Nat × Option Nat × Act1)
  | _, [] => []
  | c, (.sl t, true) :: r => (s, some c, .whole t) :: cellActs s (c + 1) r
  | c, (.sl t, false) :: r => (s, some c, .give t) :: cellActs s (c + 1) r
  | c, _ :: r => cellActs s (c + 1) r
def normActs : Nat → List Bk → List (Nat × Option Nat × Act1)
  | _, [] => []
  | s, .arr _ :: r => normActs (s + 1) r
  | s, .var _ fs :: r => cellActs s 0 fs ++ normActs (s + 1) r
def normH (back : List Bk) (ids : List Nat) (H : Hp) : Option Hp := match ids.all (fun i => Nat.blt i H.length), acts (normActs 0 back) (ids.map fun i => .ptr i 0) H with
  | true, some (_, H') => some H'
  | _, _ => none
def giveV (H : Hp) : AV → AV
  | .all id _ _ => match H[id]? with
    | some (.arr t l _) => .sl t l
    | _ => .top
  | .own id _ off n => match H[id]? with
    | some (.arr t l _) => .sl t ((l.drop off).take n)
    | _ => .top
  | v => v
def giveArg (H : Hp) : AV → AV
  | .agg cs => .agg (cs.map (giveV H))
  | .fn f cs => .fn f cs
  | .tup _ => .top
  | v => giveV H v
def preArgs (ptr : Bool) (args : List AV) (H : Hp) : List AV := match ptr with
  | true => args.map (giveArg H)
  | false => args
def preH (ptr : Bool) (args : List AV) (H : Hp) : Hp := match ptr with
  | true => lendAll H (args.flatMap fun v => ownIds (cellsOf v))
  | false => H
def takeJob (ptr : Bool) (back : List Bk) (args : List AV) (H : Hp) : Option (List AV × Hp × Hp × List Nat) :=
  match normH back (takeIds (preArgs ptr args H)) (preH ptr args H) with
  | some H' => match takeOk H' (takeIds (preArgs ptr args H)) (innerIds H' (takeIds (preArgs ptr args H)) back) back with
    | true => some ((preArgs ptr args H).map (takeArg H' (takeIds (preArgs ptr args H) ++ innerIds H' (takeIds (preArgs ptr args H)) back)),
        pickH H' (takeIds (preArgs ptr args H) ++ innerIds H' (takeIds (preArgs ptr args H)) back), H', takeIds (preArgs ptr args H) ++ innerIds H' (takeIds (preArgs ptr args H)) back)
    | false => none
  | none => none
def takeBack (own : Bool) (ts : List Ty) (back : List Bk) (x : RetT ts back) (H : Hp) (π : List Nat) : AV × Hp :=
  (one (retVals own ts (rFst ts back x) (H.length + (backBlks back (rSnd ts back x) H.length).2.length)).1,
   setBack H π (backBlks back (rSnd ts back x) H.length).1 ++ ((backBlks back (rSnd ts back x) H.length).2 ++
     (retVals own ts (rFst ts back x) (H.length + (backBlks back (rSnd ts back x) H.length).2.length)).2))
def goCut {α : Type} (goto : List Item → List AV → Hp → Option α) (m : Nat) (live : List Nat) (as : List (Nat × Option Nat × Act1)) (todo : List Item) (ts : List AV) (H : Hp) : Option α :=
  match acts as ts H with
  | some (ts, H) => goto todo (cutTs live (cutPi H m (liveIds live ts)) 0 ts) (pickH H (cutPi H m (liveIds live ts)))
  | none => none
def insertK {α : Type} (t : Ty) (s : AV) (i : Int) (xs : List t.den) (H : Hp) (K : AV → Hp → Option α) : Option α := match s with
  | .all id _ _ => match H[id]? with
    | some (.arr t' l false) => match castL? t' t l with
      | some l => cond (decide (0 < xs.length ∧ 0 ≤ i ∧ i ≤ (l.length : Int) ∧ l.length + xs.length < 4294967296))
          (K (.all H.length t.size (l.take i.toNat ++ (xs ++ l.drop i.toNat)).length) (H.set id .dead ++ [.arr t (l.take i.toNat ++ (xs ++ l.drop i.toNat)) false])) none
      | none => none
    | _ => none
  | _ => none
def sortBy (t : Ty) (cf : t.den → t.den → Int) (l : List t.den) : List t.den :=
  (@Go.Sort.pdq t.den ⟨t.dft⟩ (fun x y => decide (cf x y < 0)) l.toArray 0 l.toArray.size (Go.Lib.bitLen l.toArray.size) true true).toList
def sortK {α : Type} (t : Ty) (cf : t.den → t.den → Int) (s : AV) (H : Hp) (K : AV → Hp → Option α) : Option α := match s with
  | .all id _ _ => match H[id]? with
    | some (.arr t' l false) => match castL? t' t l with
      | some l => cond (decide (l.length < 4294967296)) (K (.tup []) (H.set id (.arr t (sortBy t cf l) false))) none
      | none => none
    | _ => none
  | _ => none
def bsort (l : List ByteArray) : List ByteArray := ((l.map (·.data.toList)).mergeSort fun x y => decide (x ≤ y)).map fun x => ⟨x.toArray⟩
def sortSK {α : Type} (s : AV) (H : Hp) (K : AV → Hp → Option α) : Option α := match s with
  | .all id _ _ => match H[id]? with
    | some (.arr t' l false) => match castL? t' .str l with
      | some l => cond (decide (l.length < 4294967296)) (K (.tup []) (H.set id (.arr .str (bsort l) false))) none
      | none => none
    | _ => none
  | _ => none
def trimB (s c : ByteArray) : ByteArray := ⟨(Go.Lib.trimS s.data.toList c.data.toList).toArray⟩
def asciiB (c : ByteArray) : Bool := c.data.toList.all (fun b => decide (b.toNat < 128)) && Nat.blt c.size 4294967281
def decB (n : Int) : ByteArray := ⟨(Go.Lib.itoa n).toArray⟩
def hexDig (d : Nat) : UInt8 := if d < 10 then UInt8.ofNat (48 + d) else UInt8.ofNat (87 + d)
def hexB (n : Int) : ByteArray := ⟨(if n < 16 then [hexDig n.toNat] else if n < 256 then [hexDig (n.toNat / 16), hexDig (n.toNat % 16)]
  else if n < 4096 then [hexDig (n.toNat / 256), hexDig (n.toNat / 16 % 16), hexDig (n.toNat % 16)]
  else [hexDig (n.toNat / 4096), hexDig (n.toNat / 256 % 16), hexDig (n.toNat / 16 % 16), hexDig (n.toNat % 16)]).toArray⟩
def repB (s : ByteArray) (c : Nat) : ByteArray := ⟨(Go.Lib.repeatL s.data.toList c).toArray⟩
def libK {α : Type} (p : LibF) (args : List AV) (K : AV → Option α) : Option α := match p, args with
  | .trim, [.str s, .str c] => cond (decide ((s.size : Int) ≤ 9223372036854775807)) (cond (asciiB c) (K (.str (trimB s c))) none) none
  | .fmtInt, [.int .i64 n, .int .i64 b] => match decide (b = 10) with
    | true => cond (decide (-9223372036854775808 ≤ n ∧ n ≤ 9223372036854775807)) (K (.str (decB n))) none
    | false => match decide (b = 16) with
      | true => cond (decide (0 ≤ n ∧ n < 65536)) (K (.str (hexB n))) none
      | false => none
  | .rep, [.str s, .int .i64 c] => cond (decide (0 ≤ c ∧ c ≤ 65536 ∧ (s.size : Int) ≤ 65536)) (K (.str (repB s c.toNat))) none
  | _, _ => none
def selfOrNil (id : Nat) : AV → Bool
  | .raw (.pointer none) => true
  | .slf i => Nat.beq i id
  | _ => false
def chkK {α : Type} (T : TypeId) (p : AV) (H : Hp) (K : AV → Hp → Option α) : Option α := match p with
  | .ptr id 0 => match H[id]? with
    | some (.var T' [c0, c1]) => match Nat.beq T' T && selfOrNil id c0 with
      | true => K (.tup []) (H.set id (.var T [.slf id, c1]))
      | false => none
    | _ => none
  | _ => none
def joinB (xs : List ByteArray) (s : ByteArray) : ByteArray := ⟨(Go.Lib.join (xs.map (·.data.toList)) s.data.toList).toArray⟩
def lcsN : List ByteArray → List ByteArray → Nat
  | [], _ => 0
  | _ :: _, [] => 0
  | x :: xs, y :: ys => if x = y then lcsN xs ys + 1 else max (lcsN xs (y :: ys)) (lcsN (x :: xs) ys)
termination_by xs ys => xs.length + ys.length
def tabL (xs ys : List ByteArray) : List (List Int) := (List.range (xs.length + 1)).map fun i => (List.range (ys.length + 1)).map fun j => ((lcsN (xs.drop i) (ys.drop j) : Nat) : Int)
def extK {α : Type} (x : XT) (args : List AV) (H : Hp) (K : AV → Hp → Option α) : Option α := match x, args with
  | .count, [.str s, .int .u8 c] => K (.int .i64 (Go.Lib.countByte s.data.toList c.toNat.toUInt8 : Nat)) H
  | .indexByte, [.str s, .int .u8 c] => K (.int .i64 (Go.Lib.indexByte s.data.toList c.toNat.toUInt8)) H
  | .compare, [.str a, .str b] => K (.int .i64 (Go.Lib.compareBytes a.data.toList b.data.toList)) H
  | .insert t, [s, .int .i64 i, .sl t' xs] => match castL? t' t xs with
    | some xs => insertK t s i xs H K
    | none => none
  | .sort t g cf, [s, .fn g' []] => match Nat.beq g' g with
    | true => sortK t cf s H K
    | false => none
  | .lib p, args => libK p args fun v => K v H
  | .chk T, [p] => chkK T p H K
  | .join, [.sl t l, .str s] => match castL? t .str l with
    | some xs => cond (decide (xs.length ≤ 140737488355328 ∧ (joinB xs s).size ≤ 140737488355328)) (K (.str (joinB xs s)) H) none
    | none => none
  | .table, [.sl t l, .sl t' l'] => match castL? t .str l, castL? t' .str l' with
    | some xs, some ys => cond (decide (xs.length ≤ 50000 ∧ ys.length ≤ 50000)) (K (.sl (.sl (.int .i64)) (tabL xs ys)) H) none
    | _, _ => none
  | .sortS, [s] => sortSK s H K
  | _, _ => none
def XT.plain : XT → Bool
  | .count | .indexByte | .compare | .join | .table | .lib _ => true
  | _ => false
def XT.model : XT → Bool
  | .count | .indexByte | .compare => true
  | _ => false
/-! #### the walk -/
abbrev Fin (α : Type) := AV → Hp → Option α
def opsK {α : Type} (E : Env) (call : (g : FuncId) → List AV → Hp → Option (Ret E g)) (inl : FI → List AV → Hp → Fin α → Option α) (ops : Array Oper) :
    List Nat → List AV → Hp → (List AV → Hp → Option α) → Option α
  | [], ts, H, K => K ts H
  | i :: r, ts, H, K => match ops[i]? with
    | none => opsK E call inl ops r ts H K
    | some o => guardS ops ts o
      (fun ts => match o.op with
        | .call c => match c.callee with
          | .builtin b => builtinK E b c.argTypes (c.args.toList.map (opnd E ts)) H fun v H => opsK E call inl ops r (put ts o.dst v) H K
          | .value g => match opnd E ts g with
            | .fn g caps => match E.fi g with
              | some gi => match gi.inl with
                | true => inl gi (c.args.toList.map (opnd E ts) ++ caps) H fun v H => opsK E call inl ops r (put ts o.dst v) H K
                | false => match gi.take with
                  | false => match caps, argsOk H (c.args.toList.map (opnd E ts)) && (backOf E g).isEmpty with
                    | [], true => (call g ((c.args.toList.map (opnd E ts)).map (lendArg H)) []).bind fun x =>
                      opsK E call inl ops r (put ts o.dst (one (retVals gi.own (rtsOf E g) (rFst (rtsOf E g) (backOf E g) x) H.length).1))
                        (afterCall gi.own (rtsOf E g) (c.args.toList.map (opnd E ts)) H ++ (retVals gi.own (rtsOf E g) (rFst (rtsOf E g) (backOf E g) x) H.length).2) K
                    | _, _ => none
                  | true => match caps, takeJob gi.ptr (backOf E g) (c.args.toList.map (opnd E ts)) H with
                    | [], some (av, Hc, H', π) => (call g av Hc).bind fun x =>
                      opsK E call inl ops r (put ts o.dst (takeBack gi.own (rtsOf E g) (backOf E g) x H' π).1) (takeBack gi.own (rtsOf E g) (backOf E g) x H' π).2 K
                    | _, _ => none
              | none => match E.xt g, caps with
                | some x, [] => extK x (c.args.toList.map (opnd E ts)) H fun v H => opsK E call inl ops r (put ts o.dst v) H K
                | _, _ => none
            | _ => none
          | _ => none
        | op => opK E op (opnd E ts) H fun v H => opsK E call inl ops r (put ts o.dst v) H K)
      (fun ts => opsK E call inl ops r (put ts o.dst (.raw undef)) H K)
/-! #### regions whose order is drawn: walked in the order of the text, if that says it all -/
def nilOp : Op → Bool
  | .binOp _ _ _ (.const (.slice none 0 0)) _ => true
  | _ => false
def kindOf (E : Env) : Op → Nat
  | .binOp _ _ _ (.const (.slice none 0 0)) _ => 3
  | .move _ | .assign _ | .pick .. | .nilCheck _ | .binOp .. | .unOp .. | .makeInterface .. | .makeFunc .. | .fieldAddr .. | .field .. | .index .. | .extract .. | .build ..
  | .indexAddr .. => 0
  | .slice t _ _ hi _ => match (E.ti t).d, hi with
    | .str, _ | _, none => 0
    | _, some _ => 1
  | .load .. => 1
  | .buildSlice _ 0 _ => 2
  | .buildSlice t _ _ => match (E.ti t).d with
    | .slice e => match (E.ti e).ty.hasSl || (E.ti t).own with
      | true => 2
      | false => 0
    | _ => 2
  | .convert s _ _ => match (E.ti s).d with
    | .slice _ => 2
    | _ => 0
  | .alloc _ | .box .. | .makeSlice .. => 2
  | .call c => match c.callee with
    | .builtin .len | .builtin .min | .builtin .max | .builtin .unsafeSliceData => 0
    | .value (.func g) => match E.fi g with
      | some gi => match gi.inl || gi.take, gi.own || shares false gi.rts with
        | true, _ => 3
        | _, true => 2
        | _, false => 1
      | none => match E.xt g with
        | some x => match x.plain with
          | true => 0
          | false => 3
        | none => 3
    | _ => 3
  | _ => 3
def apartK (a b : Nat) : Bool := match a, b with
  | 0, _ | _, 0 | 1, 1 | 1, 2 | 2, 1 => true
  | _, _ => false
def edge (ops : Array Oper) (j i : Nat) : Bool := ((ops[j]?).map (·.after.any fun e => e.on == i && Region.binds .any e)).getD false
def predsL (ops : Array Oper) (j : Nat) : List Nat := match ops[j]? with
  | some o => (o.after.toList.filter fun e => Region.binds .any e).map (·.on)
  | none => []
def past (ops : Array Oper) : Nat → List Nat → List Nat
  | 0, acc => acc
  | n + 1, acc => match Nat.beq (addNew acc (acc.flatMap (predsL ops))).length acc.length with
    | true => acc
    | false => past ops n (addNew acc (acc.flatMap (predsL ops)))
def aheadOf (ops : Array Oper) (i j : Nat) : Bool := (past ops ops.size (predsL ops j)).contains i
def mayInl (E : Env) : Op → Bool
  | .call c => match c.callee with
    | .builtin _ => false
    | .value (.func g) => match E.fi g with
      | some gi => gi.inl
      | none => false
    | _ => true
  | _ => false
def looks (ops : Array Oper) (o : Oper) : List Tmp :=
  (o.op.operands.toList.filterMap fun | .tmp t => some t | _ => none) ++ (match o.guard with | some (g, _) => ((ops[g]?).bind (·.dst)).toList | none => [])
def backOk (ops : Array Oper) : Bool := (List.range ops.size).all fun j => ((ops[j]?).map fun o => (o.after.all fun e => !Region.binds .any e || Nat.blt e.on j) && !nilOp o.op).getD true
def okR : AV → Bool
  | .rptr .. | .sl .. | .emp | .top | .raw _ => true
  | _ => false
def okB (id : Nat) : AV → Bool
  | .ptr i _ | .eptr i _ _ | .aptr i _ _ => Nat.beq i id
  | .top | .raw _ => true
  | _ => false
def unwr (ops : Array Oper) (s : Nat) : Bool := ops.toList.all fun o => o.dst != some s
def baseAt (ts : List AV) (s : Nat) : Option Nat := match ts.getD s .top with
  | .ptr id _ | .eptr id _ _ | .aptr id _ _ => some id
  | _ => none
def basedOn : Op → Option Operand
  | .fieldAddr _ y _ | .indexAddr _ y _ | .move y => some y
  | _ => none
def FaOk (E : Env) (ts : List AV) (o : Op) (σ : AV) : Prop := ∀ y, basedOn o = some y → (∀ id, okB id (opnd E ts y) = true → okB id σ = true) ∧ (okR (opnd E ts y) = true → okR σ = true)
def fieldBase (ops : Array Oper) (s : Nat) : Option Nat := match ops.toList.filter fun o => o.dst == some s with
  | [o] => match basedOn o.op with
    | some (.tmp b) => some b
    | _ => none
  | _ => none
def voOf (ops : Array Oper) (ts : List AV) : List (Nat × Nat) := (List.range ts.length).filterMap fun s => match unwr ops s with
  | true => (baseAt ts s).map fun id => (s, id)
  | false => match fieldBase ops s with
    | some b => match unwr ops b, baseAt ts b with
      | true, some id => match okB id (ts.getD s .top) with
        | true => some (s, id)
        | false => none
      | _, _ => none
    | none => none
def lookV (s : Nat) : List (Nat × Nat) → Option Nat
  | [] => none
  | p :: r => match Nat.beq p.1 s with
    | true => some p.2
    | false => lookV s r
def ptrOf (vo : List (Nat × Nat)) : Operand → Option Nat
  | .tmp s => lookV s vo
  | _ => none
def otherV (vo : List (Nat × Nat)) (x y : Operand) : Bool := match ptrOf vo x, ptrOf vo y with
  | some i, some j => !(Nat.beq i j)
  | _, _ => false
def apartSL (vo : List (Nat × Nat)) (a b : Op) : Bool := match a with
  | .store _ x _ => match b with
    | .load _ y => otherV vo x y
    | _ => false
  | .load _ y => match b with
    | .store _ x _ => otherV vo x y
    | _ => false
  | _ => false
abbrev Ro := (Nat → Bool) × List (Nat × Nat) × List Nat
def isTop : AV → Bool
  | .top => true
  | _ => false
def okSlot (ops : Array Oper) (ts : List AV) : Nat → Nat → Bool
  | 0, _ => false
  | n + 1, s => okR (ts.getD s .top) && ops.toList.all fun o => o.dst != some s || match basedOn o.op with
    | some (.tmp b) => okSlot ops ts n b
    | _ => false
def roOf (ops : Array Oper) (ts : List AV) : Ro := (okSlot ops ts 4, voOf ops ts, (List.range ts.length).filter fun s => isTop (ts.getD s .top))
def kindR (E : Env) (ro : Nat → Bool) (o : Op) : Nat := match o with
  | .load _ (.tmp s) => match ro s with
    | true => 0
    | false => kindOf E o
  | o => kindOf E o
def onlyW (ops : Array Oper) (d j : Nat) : Bool := (List.range ops.size).all fun k => Nat.beq k j || ((ops[k]?).map fun o => o.dst != some d).getD true
def lateAt (E : Env) (ops : Array Oper) (lt : List Nat) (j : Nat) : Bool := match ops[j]? with
  | some o => match o.op with
    | .alloc t => match o.dst, o.guard, (E.ti t).d with
      | _, _, .array .. => false
      | some d, none, _ => (E.ti t).zero.length == (E.ti t).size && (predsL ops j).isEmpty && lt.contains d && onlyW ops d j
      | _, _, _ => false
    | _ => false
  | none => false
def lateOk (ops : Array Oper) (i j : Nat) : Bool := (List.range ops.size).all fun m => !(predsL ops m).contains j || aheadOf ops i m
def drawOk (E : Env) (ro : Ro) (ops : Array Oper) : Bool := backOk ops &&
  (List.range ops.size).all fun j => (List.range j).all fun i => match ops[i]?, ops[j]? with
    | some a, some b =>
      (aheadOf ops i j ||
        ((match a.dst with | some d => !(looks ops b).contains d && b.dst != some d | none => true) &&
         (match b.dst with | some d => !(looks ops a).contains d | none => true) &&
         (apartK (kindR E ro.1 a.op) (kindR E ro.1 b.op) || apartSL ro.2.1 a.op b.op) && (!mayInl E a.op && (!mayInl E b.op || kindR E ro.1 a.op == 0))) ||
        (lateAt E ops ro.2.2 j && lateOk ops i j))
    | _, _ => false
def noTup : AV → Bool
  | .tup _ => false
  | _ => true
def resList (E : Env) (ts : List AV) (H : Hp) : List ResultVar → Option (List AV)
  | [] => some []
  | .tmp t :: r => match noTup (ts.getD t .top), resList E ts H r with
    | true, some l => some (ts.getD t .top :: l)
    | _, _ => none
  | .cell a t :: r => match Nat.blt (E.ti t).size 1000000000, loadP H (E.ti t).agg (E.ti t).size (ts.getD a .top), resList E ts H r with
    | true, some v, some l => some (v :: l)
    | _, _, _ => none
def finR {α : Type} (E : Env) (fn : Func) (ts : List AV) (H : Hp) (fin : Fin α) : Option α := match resList E ts H fn.results.toList with
  | some vs => fin (one vs) H
  | none => none
def entry (fi : FI) (args : List AV) : List AV := args ++ List.replicate (fi.fn.ntmps - args.length) .top
def inlOf {α : Type} (draw : Bool) (body : Option Code) (K : Code → Option α) : Option α := match draw, body with
  | false, some c => K c
  | _, _ => none
def noOwn (E : Env) : Env := { E with ti := fun t => { E.ti t with own := false } }
def regionK {α : Type} (E : Env) (call : (g : FuncId) → List AV → Hp → Option (Ret E g)) (inl : FI → List AV → Hp → Fin α → Option α) (ops : Array Oper) (ts : List AV) (H : Hp) (draw : Bool) (K : List AV → Hp → Option α) : Option α := match draw with
  | false => opsK E call inl ops (List.range ops.size) ts H K
  | true => match drawOk (noOwn E) (roOf ops ts) ops with
    | true => opsK (noOwn E) call inl ops (List.range ops.size) ts H K
    | false => none
def steps {α : Type} (E : Env) (call : (g : FuncId) → List AV → Hp → Option (Ret E g)) :
    Nat → (goto : Option (List Item → List AV → Hp → Option α)) → (fi : FI) → List Item → List AV → Hp → Fin α → Option α
  | 0, _, _, _, _, _, _ => none
  | n + 1, goto, fi, todo, ts, H, fin => match todo with
    | [] => finR E fi.fn ts H fin
    | .code .ret :: _ => finR E fi.fn ts H fin
    | .code .skip :: k | .code (.label _) :: k | .inBlock _ :: k => steps E call n goto fi k ts H fin
    | .code (.seq a b) :: k => steps E call n goto fi (.code a :: .code b :: k) ts H fin
    | .code (.cond c t e) :: k => match opnd E ts c with
      | .bool b => cond b (steps E call n goto fi (.code t :: k) ts H fin) (steps E call n goto fi (.code e :: k) ts H fin)
      | _ => none
    | .code (.block id body) :: k => steps E call n goto fi (.code body :: .inBlock id :: k) ts H fin
    | .code (.loop body) :: k | .inLoop body :: k => steps E call n goto fi (.code body :: .inLoop body :: k) ts H fin
    | .code (.exit id) :: k => match exitTo id k with
      | some k => steps E call n goto fi k ts H fin
      | none => none
    | .code (.region id ops draw) :: k =>
      match goto, fi.cuts.lookup id with
      | some g, some (live, as) => goCut g fi.back.length live as (.code (.region id ops draw) :: k) ts H
      | _, _ => regionK E call (fun gi args H fin => inlOf false gi.fn.body fun c => steps E call n none gi [.code c] (entry gi args) H fin) ops ts H draw fun ts H => steps E call n goto fi k ts H fin
    | _ => none
termination_by structural n => n
def STEPS : Nat := 4000
def retCells : AV → List AV
  | .tup vs => vs.flatMap cellsOf
  | v => cellsOf v
def ownOk (H : Hp) (v : AV) : Bool :=
  let cs := retCells v
  let ids := ownIds cs
  ids.all (fun id => match H[id]? with | some (.arr _ _ false) => true | _ => false) && ids.length == (addNew [] ids).length &&
    cs.all (fun | .sl .. => false | _ => true)
def finIds (back : List Bk) (H : Hp) : List Nat := List.range back.length ++ innerIds H (List.range back.length) back
def finOk (own : Bool) (back : List Bk) (v : AV) (H : Hp) : Bool := match own with
  | false => (innerIds H (List.range back.length) back).all (freeArr H) && nodupB (finIds back H)
  | true => ownOk H v && ((innerIds H (List.range back.length) back).all (freeArr H) && nodupB (finIds back H ++ ownIds (retCells v)))
def finH (own : Bool) (v : AV) (H : Hp) : Hp := match own with
  | false => lendAll H (ownIds (retCells v))
  | true => H
def finK1 (E : Env) (f : FuncId) (own : Bool) (v : AV) (H : Hp) : Option (Ret E f) := match finOk own (backOf E f) v (finH own v H) with
  | true => match decRet (rtsOf E f) (v, H) with
    | some x => match decBack (finH own v H) 0 (backOf E f) with
      | some y => some (rMk (rtsOf E f) (backOf E f) x y)
      | none => none
    | none => none
  | false => none
def finK (E : Env) (f : FuncId) (own : Bool) : Fin (Ret E f) := fun v H => match normH (backOf E f) (List.range (backOf E f).length) H with
  | some H' => finK1 E f own v H'
  | none => none
def ev (E : Env) : Nat → (f : FuncId) → Job → Option (Ret E f)
  | 0, _, _ => none
  | n + 1, f, .call args Hc => match E.fi f with
    | some fi => match fi.fn.body with
      | some c => match Nat.ble fi.back.length Hc.length with
        | true => steps E (fun g as H => ev E n g (.call as H)) STEPS (some fun todo ts H => ev E n f (.cut todo ts H)) fi [.code c] (entry fi args) Hc (finK E f fi.own)
        | false => none
      | none => none
    | none => none
  | n + 1, f, .cut todo ts H => match E.fi f with
    | some fi => match todo with
      | .code (.region _ ops draw) :: k => regionK E (fun g as H => ev E n g (.call as H)) (fun gi args H fin => inlOf false gi.fn.body fun c => steps E (fun g as H => ev E n g (.call as H)) STEPS none gi [.code c] (entry gi args) H fin) ops ts H draw fun ts H =>
            steps E (fun g as H => ev E n g (.call as H)) STEPS (some fun todo ts H => ev E n f (.cut todo ts H)) fi k ts H (finK E f fi.own)
      | _ => none
    | none => none
def todoAt : Code → Nat → List Item → Option (List Item)
  | .region i ops d, id, k => match i == id with
    | true => some (.code (.region i ops d) :: k)
    | false => none
  | .seq a b, id, k => match todoAt a id (.code b :: k) with
    | some r => some r
    | none => todoAt b id k
  | .cond _ t e, id, k => match todoAt t id k with
    | some r => some r
    | none => todoAt e id k
  | .block i b, id, k => todoAt b id (.inBlock i :: k)
  | .loop b, id, k => todoAt b id (.inLoop b :: k)
  | .scope b, id, k => todoAt b id (.inScope b :: k)
  | _, _, _ => none
def pc (fn : Func) (id : Nat) : List Item := ((fn.body.bind fun c => todoAt c id []).getD [])
def sp : Nat → List (Nat × AV) → List AV
  | n, l => l.foldl (fun ts p => ts.set p.1 p.2) (List.replicate n .top)
/-! #### a table by number -/
inductive Tr (α : Type) where
  | leaf
  | node (k : Nat) (v : α) (l r : Tr α)
def Tr.find {α : Type} : Tr α → Nat → Option α
  | .leaf, _ => none
  | .node k v l r, i => match Nat.beq k i with
    | true => some v
    | false => match Nat.blt i k with
      | true => l.find i
      | false => r.find i
end
end Go.Proofs.YtmojilihllhadaaGreatDoor.Ev
