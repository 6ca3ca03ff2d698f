/- A small machine that evaluates the model's code, and that it is right, part 1. No condition. -/
import Derived.Orders
import Derived.RowKit
import Derived.Laws.AppendOwn
import Derived.Laws.MakeOwn
import Derived.Laws.CopyRow
import Derived.Laws.StructEq
import Derived.Laws.Entries
import Derived.Lib.LazyBuf
import Derived.Laws.Slices
import Derived.Laws.BytesString
set_option linter.unusedVariables false
namespace Go.Vm
inductive Sh where
 | int (k : IntKind)
 | bool
 | str
 | sl (T : TypeId) (e : Sh)
 | pair (a b : Sh)
 | unit
 deriving DecidableEq
@[reducible] def Sh.den : Sh -> Type
 | .int _ => Int
 | .bool => Bool
 | .str => ByteArray
 | .sl _ e => List e.den
 | .pair a b => a.den × b.den
 | .unit => Unit
def Sh.size : Sh -> Nat
 | .pair a b => a.size + b.size
 | .unit => 0
 | _ => 1
def Sh.flat : Sh -> Bool
 | .sl _ _ => false
 | .pair a b => a.flat && b.flat
 | _ => true
def Sh.zero : (s : Sh) -> s.den
 | .int _ => (0 : Int)
 | .bool => false
 | .str => ByteArray.empty
 | .sl _ _ => []
 | .pair a b => (a.zero, b.zero)
 | .unit => ()
def Sh.isPair : Sh -> Bool
 | .pair _ _ => true
 | _ => false
def cst (a b : Sh) (x : a.den) : Option b.den := if h : a = b then some (h ▸ x) else none
def cstL (a b : Sh) (x : List a.den) : Option (List b.den) := if h : a = b then some (h ▸ x) else none
def Sh.beq : (s : Sh) -> s.den -> s.den -> Bool
 | .int _, x, y => decide ((x : Int) = y)
 | .bool, x, y => (x : Bool) == y
 | .str, x, y => ByteArray.toList x == ByteArray.toList y
 | .sl _ _, _, _ => false
 | .pair a b, x, y => a.beq x.1 y.1 && b.beq x.2 y.2
 | .unit, _, _ => true
def Sh.plain : Sh -> Bool
 | .int _ => true
 | .bool => true
 | .pair a b => a.plain && b.plain
 | _ => false
def Sh.sub : Sh -> List Bool -> Option Sh
 | s, [] => some s
 | .pair a _, false :: p => a.sub p
 | .pair _ b, true :: p => b.sub p
 | _, _ => none
def Sh.off : Sh -> List Bool -> Nat
 | _, [] => 0
 | .pair a _, false :: p => a.off p
 | .pair a b, true :: p => a.size + b.off p
 | _, _ => 0
def fp : Nat -> Nat -> List Bool
 | 0, _ => []
 | 1, _ => []
 | _ + 2, 0 => [false]
 | n + 2, j + 1 => true :: fp (n + 1) j
def getT : (S : Sh) -> S.den -> (p : List Bool) -> Option ((s : Sh) × s.den)
 | S, x, [] => some ⟨S, x⟩
 | .pair a _, x, false :: p => getT a x.1 p
 | .pair _ b, x, true :: p => getT b x.2 p
 | _, _, _ => none
def setT : (S : Sh) -> S.den -> List Bool -> (s : Sh) -> s.den -> Option S.den
 | S, _, [], s, y => cst s S y
 | .pair a _, x, false :: p, s, y => match setT a x.1 p s y with
  | some z => some (z, x.2)
  | none => none
 | .pair _ b, x, true :: p, s, y => match setT b x.2 p s y with
  | some z => some (x.1, z)
  | none => none
 | _, _, _, _, _ => none
def rdL {e : Sh} (xs : List e.den) (i : Int) : e.den := xs.getD i.toNat e.zero
inductive AV where
 | unk
 | val (s : Sh) (x : s.den)
 | pair (a b : AV)
 | ptr (id : Nat) (ix : Option Int) (p : List Bool)
 | sref (id : Nat) (ix : Option Int) (p : List Bool)
 | nilv (T : TypeId) (e : Sh)
 | iptr (s : Sh) (x : s.den)
 | nq (e : Bool)
 | fn (f : FuncId) (caps : List Nat)
 | tnil
 | tcons (a b : AV)
inductive Ob where
 | none
 | box (S : Sh) (v : AV)
 | cbox (S : Sh) (x : S.den)
 | arr (T : TypeId) (e : Sh) (xs : List e.den)
 | iarr (T : TypeId) (e : Sh) (xs : List e.den)
structure St where
 env : Nat -> AV
 hp : Nat -> Ob
def upd {α : Type} (f : Nat -> α) (k : Nat) (v : α) : Nat -> α := fun t => bif Nat.beq t k then v else f t
def updL {α : Type} (f : Nat -> α) : List (Nat × α) -> Nat -> α
 | [] => f
 | x :: r => updL (upd f x.1 x.2) r
def mem : Nat -> List Nat -> Bool
 | _, [] => false
 | x, y :: r => Nat.beq x y || mem x r
def nodup : List Nat -> Bool
 | [] => true
 | x :: r => !mem x r && nodup r
def disj : List Nat -> List Nat -> Bool
 | [], _ => true
 | x :: r, l => !mem x l && disj r l
def subl : List Nat -> List Nat -> Bool
 | [], _ => true
 | x :: r, l => mem x l && subl r l
def mkPair : AV -> AV -> AV
 | .val s x, .val t y => .val (.pair s t) (x, y)
 | a, b => .pair a b
def AV.isTup : AV -> Bool
 | .tnil => true
 | .tcons _ _ => true
 | _ => false
def AV.ids : AV -> List Nat
 | .pair a b => a.ids ++ b.ids
 | .ptr id _ _ => [id]
 | .sref id _ _ => [id]
 | .fn _ caps => caps
 | .tcons a b => a.ids ++ b.ids
 | _ => []
def Ob.ids : Ob -> List Nat
 | .box _ v => v.ids
 | _ => []
def AV.scrub (D : List Nat) : AV -> AV
 | .pair a b => .pair (a.scrub D) (b.scrub D)
 | .ptr id ix p => bif mem id D then .unk else .ptr id ix p
 | .sref id ix p => bif mem id D then .unk else .sref id ix p
 | .fn f caps => bif disj caps D then .fn f caps else .unk
 | .tcons a b => .tcons (a.scrub D) (b.scrub D)
 | v => v
def AV.killN (D : List Nat) : AV -> AV
 | .pair a b => .pair (a.killN D) (b.killN D)
 | .sref id (some i) p => bif mem id D then .unk else .sref id (some i) p
 | .tcons a b => .tcons (a.killN D) (b.killN D)
 | v => v
def Ob.mapA (f : AV -> AV) : Ob -> Ob
 | .box S v => .box S (f v)
 | o => o
def St.mapA (f : AV -> AV) (s : St) : St := ⟨fun t => f (s.env t), fun id => (s.hp id).mapA f⟩
def St.scrub (s : St) (D : List Nat) : St :=
 match D with
 | [] => s
 | _ => ⟨fun t => (s.env t).scrub D, fun id => bif mem id D then .none else (s.hp id).mapA (AV.scrub D)⟩
def St.killN (s : St) (D : List Nat) : St :=
 match D with
 | [] => s
 | _ => s.mapA (AV.killN D)
def getA : AV -> List Bool -> Option AV
 | v, [] => some v
 | .val (.pair a _) x, false :: p => getA (.val a x.1) p
 | .val (.pair _ b) x, true :: p => getA (.val b x.2) p
 | .pair a _, false :: p => getA a p
 | .pair _ b, true :: p => getA b p
 | _, _ => none
def setA : AV -> List Bool -> AV -> Option AV
 | _, [], w => some w
 | .val (.pair a b) x, false :: p, w => match setA (.val a x.1) p w with
  | some u => some (mkPair u (.val b x.2))
  | none => none
 | .val (.pair a b) x, true :: p, w => match setA (.val b x.2) p w with
  | some u => some (mkPair (.val a x.1) u)
  | none => none
 | .pair a b, false :: p, w => match setA a p w with
  | some u => some (mkPair u b)
  | none => none
 | .pair a b, true :: p, w => match setA b p w with
  | some u => some (mkPair a u)
  | none => none
 | _, _, _ => none
def fits (hp : Nat -> Ob) : Sh -> AV -> Bool
 | S, .val s _ => decide (s = S)
 | .pair a b, .pair u v => fits hp a u && fits hp b v
 | .sl T e, .nilv T' e' => decide (T = T') && decide (e = e')
 | .sl T e, .sref id none [] => match hp id with
  | .arr T' e' _ => decide (T = T') && decide (e = e')
  | .iarr T' e' _ => decide (T = T') && decide (e = e')
  | _ => false
 | _, _ => false
def zeroAV : Sh -> AV
 | .sl T e => .nilv T e
 | .pair a b => mkPair (zeroAV a) (zeroAV b)
 | s => .val s s.zero
def toVal (hp : Nat -> Ob) : (S : Sh) -> AV -> Option S.den
 | S, .val s x => cst s S x
 | .pair a b, .pair u v => match toVal hp a u, toVal hp b v with
  | some x, some y => some (x, y)
  | _, _ => none
 | .sl _ e, .nilv _ e' => if e' = e then some [] else none
 | .sl T e, .sref id ix p => match hp id with
  | .arr T' e' xs => match ix with
   | none => cst (.sl T' e') (.sl T e) xs
   | some i => match getT e' (rdL xs i) p with
    | some ⟨s, x⟩ => cst s (.sl T e) x
    | none => none
  | _ => none
 | _, _ => none
def absorb (hp : Nat -> Ob) : (S : Sh) -> AV -> Option (S.den × List Nat)
 | S, .val s x => bif s.flat then (match cst s S x with | some y => some (y, []) | none => none) else none
 | .pair a b, .pair u v => match absorb hp a u, absorb hp b v with
  | some (x, l), some (y, m) => some ((x, y), l ++ m)
  | _, _ => none
 | .sl _ e, .nilv _ e' => if e' = e then some ([], []) else none
 | .sl T e, .sref id none [] => match hp id with
  | .arr T' e' xs => match cst (.sl T' e') (.sl T e) xs with
   | some y => some (y, [id])
   | none => none
  | _ => none
 | _, _ => none
def intro : (S : Sh) -> S.den -> Nat -> AV × List (Nat × Ob) × Nat
 | .sl T e, xs, k => (.sref k none [], [(k, .arr T e xs)], k + 10000)
 | .pair a b, x, k =>
  match intro a x.1 k with
  | (u, l, k') => match intro b x.2 k' with
   | (v, m, k'') => (mkPair u v, l ++ m, k'')
 | .int i, x, k => (.val (.int i) x, [], k)
 | .bool, x, k => (.val .bool x, [], k)
 | .str, x, k => (.val .str x, [], k)
 | .unit, x, k => (.val .unit x, [], k)
def treeAt (id : Nat) (i : Int) : (s : Sh) -> s.den -> List Bool -> AV
 | .sl T e, _, p => .sref id (some i) p
 | .pair a b, x, p => mkPair (treeAt id i a x.1 (p ++ [false])) (treeAt id i b x.2 (p ++ [true]))
 | .int k, x, _ => .val (.int k) x
 | .bool, x, _ => .val .bool x
 | .str, x, _ => .val .str x
 | .unit, x, _ => .val .unit x
def Sh.nsl : Sh -> Nat
 | .sl _ _ => 1
 | .pair a b => a.nsl + b.nsl
 | _ => 0
inductive RK where
 | imm | own | new
inductive Mode where
 | imm (S : Sh)
 | own (S : Sh)
 | lend (T : TypeId) (e : Sh)
 | pO (S : Sh)
 | pI (S : Sh)
 | pR (S : Sh)
 | clo (f : FuncId) (ss : List Sh)
 | loan (S : Sh)
def chain : List Sh -> Sh
 | [] => .unit
 | s :: r => .pair s (chain r)
@[reducible] def Mode.inSh : Mode -> Sh
 | .imm S => S | .own S => S | .lend T e => .sl T e | .pO S => S | .pI S => S | .pR S => S
 | .clo _ ss => chain ss
 | .loan S => S
@[reducible] def insSh : List Mode -> Sh
 | [] => .unit
 | m :: r => .pair m.inSh (insSh r)
@[reducible] def backSh : List Mode -> Sh
 | [] => .unit
 | .lend T e :: r => .pair (.sl T e) (backSh r)
 | .pO S :: r => .pair S (backSh r)
 | .pI S :: r => .pair S (backSh r)
 | .loan S :: r => .pair S (backSh r)
 | _ :: r => backSh r
def splitB : (m : Mode) -> (ms : List Mode) -> (backSh (m :: ms)).den -> Option m.inSh.den × (backSh ms).den
 | .lend _ _, _, y => (some y.1, y.2)
 | .pO _, _, y => (some y.1, y.2)
 | .pI _, _, y => (some y.1, y.2)
 | .loan _, _, y => (some y.1, y.2)
 | .imm _, _, y => (none, y)
 | .own _, _, y => (none, y)
 | .pR _, _, y => (none, y)
 | .clo _ _, _, y => (none, y)
@[reducible] def outSh : List (RK × Sh) -> List Mode -> Sh
 | [], ms => backSh ms
 | r :: rs, ms => .pair r.2 (outSh rs ms)
structure Con where
 ps : List Mode
 rs : List (RK × Sh)
 pre : (insSh ps).den -> Bool
 fn : (insSh ps).den -> (outSh rs ps).den
inductive Kd where
 | asis | own | imm
 | pair (a b : Kd)
structure Keep where
 slots : List (Nat × Kd)
 boxes : List (Nat × Kd)
 arrs : List Nat
structure Ctx where
 n : Nat
 ty : TypeId -> Option (Sh × Nat)
 con : FuncId -> List Con
 keep : List Bool -> Keep
 fz : Nat -> List Nat
def Ob.isNone : Ob -> Bool
 | .none => true
 | _ => false
structure Res where
 c : Bool
 v : AV
 up : List (Nat × Ob)
 dr : List Nat
 nk : List Nat
def Res.pure (v : AV) : Res := ⟨true, v, [], [], []⟩
def Res.when (c : Bool) (v : AV) : Res := ⟨c, v, [], [], []⟩
def BIG : Nat := 4294967296
def bits (op : BinOp) (k : IntKind) (x y : Int) : Int :=
 match op with
 | .and => k.wrap (BitVec.ofInt k.bits x &&& BitVec.ofInt k.bits y).toNat
 | .or => k.wrap (BitVec.ofInt k.bits x ||| BitVec.ofInt k.bits y).toNat
 | _ => k.wrap (BitVec.ofInt k.bits x ^^^ BitVec.ofInt k.bits y).toNat
def iop (op : BinOp) (k : IntKind) (x y : Int) : Option Res :=
 match op with
 | .add => some (.pure (.val (.int k) (k.wrap (x + y))))
 | .sub => some (.pure (.val (.int k) (k.wrap (x - y))))
 | .mul => some (.pure (.val (.int k) (k.wrap (x * y))))
 | .quo => some (.when (!decide (y = 0)) (.val (.int k) (k.wrap (x.tdiv y))))
 | .rem => some (.when (!decide (y = 0)) (.val (.int k) (x.tmod y)))
 | .and => some (.pure (.val (.int k) (bits .and k x y)))
 | .or => some (.pure (.val (.int k) (bits .or k x y)))
 | .xor => some (.pure (.val (.int k) (bits .xor k x y)))
 | .eql => some (.pure (.val .bool (decide (x = y))))
 | .neq => some (.pure (.val .bool (!decide (x = y))))
 | .lss => some (.pure (.val .bool (decide (x < y))))
 | .leq => some (.pure (.val .bool (decide (x <= y))))
 | .gtr => some (.pure (.val .bool (decide (x > y))))
 | .geq => some (.pure (.val .bool (decide (x ≥ y))))
 | _ => none
def sop (op : BinOp) (x y : ByteArray) : Option Res :=
 match op with
 | .add => some (.when (decide (x.size + y.size <= BIG)) (.val .str (x ++ y)))
 | .eql => some (.pure (.val .bool (x.toList == y.toList)))
 | .neq => some (.pure (.val .bool (!(x.toList == y.toList))))
 | _ => none
def bop (X : Ctx) (op : BinOp) (T : TypeId) (a b : AV) (hp : Nat -> Ob) : Option Res :=
 match a, b with
 | .val (.int k) x, .val (.int k') y => if k = k' then iop op k x y else none
 | .val .bool x, .val .bool y =>
  (match X.ty T with
   | some (.bool, _) => (match op with
    | .eql => some (.pure (.val .bool ((x : Bool) == y)))
    | .neq => some (.pure (.val .bool (!((x : Bool) == y))))
    | _ => none)
   | _ => none)
 | .val .str x, .val .str y => sop op x y
 | u, v =>
  (match X.ty T with
   | some (.pair s t, _) => bif (Sh.pair s t).plain then
    (match toVal hp (.pair s t) u, toVal hp (.pair s t) v with
     | some x, some y => (match op with
      | .eql => some (.pure (.val .bool ((Sh.pair s t).beq x y)))
      | .neq => some (.pure (.val .bool (!((Sh.pair s t).beq x y))))
      | _ => none)
     | _, _ => none)
    else none
   | _ => none)
def nilQ (X : Ctx) (op : BinOp) (T : TypeId) (y : Operand) (a : AV) : Option Res :=
 match op, y, a with
 | .eql, .const (.slice none 0 0), .val (.sl _ _) xs => (match X.ty T with
  | some (.sl _ _, _) => some (.pure (.nq (List.isEmpty xs)))
  | _ => none)
 | _, _, _ => none
def lenAV (hp : Nat -> Ob) : Sh -> AV -> Option Res
 | .sl _ _, .val (.sl _ _) xs => some (.pure (.val (.int .i64) (xs.length : Int)))
 | .str, .val .str s => some (.pure (.val (.int .i64) ((ByteArray.size s : Nat) : Int)))
 | .sl _ _, .nilv _ _ => some (.pure (.val (.int .i64) (0 : Int)))
 | .sl _ _, .sref id ix p => match hp id with
  | .arr _ e xs => match ix with
   | none => some (.pure (.val (.int .i64) (xs.length : Int)))
   | some i => match getT e (rdL xs i) p with
    | some ⟨.sl _ _, ys⟩ => some (.pure (.val (.int .i64) (ys.length : Int)))
    | _ => none
  | .iarr _ _ xs => match ix with
   | none => some (.pure (.val (.int .i64) (xs.length : Int)))
   | some _ => none
  | _ => none
 | _, _ => none
def strAt (s : ByteArray) (i : Int) : Int := ((s.data.toList.getD i.toNat 0).toNat : Int)
def bytesStr (xs : List Int) : ByteArray := ⟨(xs.map fun n => UInt8.ofNat n.toNat).toArray⟩
def indexAV (hp : Nat -> Ob) (el : Sh) (x i : AV) : Option Res :=
 match i with
 | .val (.int _) i => (match x with
  | .val (.sl _ e) xs => if e = el then some (.when (decide ((0 : Int) <= i) && decide (i < (xs.length : Int))) (.iptr e (rdL xs i))) else none
  | .sref id none [] => (match hp id with
   | .arr _ e xs => if e = el then some (.when (decide ((0 : Int) <= i) && decide (i < (xs.length : Int))) (.ptr id (some i) [])) else none
   | .iarr _ e xs => if e = el then some (.when (decide ((0 : Int) <= i) && decide (i < (xs.length : Int))) (.ptr id (some i) [])) else none
   | _ => none)
  | _ => none)
 | _ => none
def loadAV (hp : Nat -> Ob) (T : Sh) : AV -> Option Res
 | .ptr id none p => (match hp id with
  | .box S v => if S.sub p = some T then (match getA v p with
   | some u => some (.pure u)
   | none => none) else none
  | .cbox S x => (match getT S x p with
   | some ⟨s, y⟩ => if s = T then some (.pure (.val s y)) else none
   | none => none)
  | _ => none)
 | .ptr id (some i) p => (match hp id with
  | .arr _ e xs => (match getT e (rdL xs i) p with
   | some ⟨s, y⟩ => if s = T then some (.pure (treeAt id i s y p)) else none
   | none => none)
  | .iarr _ e xs => (match getT e (rdL xs i) p with
   | some ⟨s, y⟩ => if s = T then some (.pure (.val s y)) else none
   | none => none)
  | _ => none)
 | .iptr s x => if s = T then some (.pure (.val s x)) else none
 | _ => none
def storeAV (hp : Nat -> Ob) (s : Sh) (a v : AV) : Option Res :=
 match a with
 | .ptr id none p => (match hp id with
  | .box S u => if S.sub p = some s then (bif fits hp s v then (match setA u p v with
     | some w => some ⟨true, .unk, [(id, .box S w)], [], []⟩
     | none => none) else none) else none
  | _ => none)
 | .ptr id (some i) p => (match hp id with
  | .arr T e xs => if e.sub p = some s then (match absorb hp s v with
    | some (y, D) => (match setT e (rdL xs i) p s y with
     | some z => bif nodup (id :: D) then
       some ⟨true, .unk, [(id, .arr T e (xs.set i.toNat z))], D, bif s.flat then [] else [id]⟩ else none
     | none => none)
    | none => none) else none
  | .iarr T e xs => (match p, v.ids with
   | [], [] => if e = s then (match toVal hp e v with
     | some z => some ⟨true, .unk, [(id, .iarr T e (xs.set i.toNat z))], [], [id]⟩
     | none => none) else none
   | _, _ => none)
  | _ => none)
 | _ => none
def appLeft (hp : Nat -> Ob) (T : TypeId) (e : Sh) : AV -> Option (List e.den × List Nat)
 | .nilv _ e' => if e' = e then some ([], []) else none
 | .sref id none [] => (match hp id with
  | .arr T' e' xs => (match cst (.sl T' e') (.sl T e) xs with
   | some y => some (y, [id])
   | none => none)
  | _ => none)
 | _ => none
def appRight (hp : Nat -> Ob) (T : TypeId) (e : Sh) (v : AV) : Option (List e.den × List Nat) :=
 bif e.flat then (match toVal hp (.sl T e) v with
  | some ys => some (ys, [])
  | none => none)
 else absorb hp (.sl T e) v
def appendAV (hp : Nat -> Ob) (d : Nat) (T : TypeId) (e : Sh) (a b : AV) : Option Res :=
 match appLeft hp T e a, appRight hp T e b with
 | some (xs, l), some (ys, m) => bif nodup (l ++ m) && (hp d).isNone then
   some ⟨decide (xs.length + ys.length <= BIG), .sref d none [], [(d, .arr T e (xs ++ ys))], l ++ m, []⟩ else none
 | _, _ => none
def litPart {α : Type} (f : AV -> Option (α × List Nat)) (z : α) (parts : List (Nat × AV)) (i : Nat) : Option (α × List Nat) :=
 match parts.find? (fun q => Nat.beq q.1 i) with
 | some q => f q.2
 | none => some (z, [])
def litL {α : Type} (f : AV -> Option (α × List Nat)) (z : α) (parts : List (Nat × AV)) : Nat -> Nat -> Option (List α × List Nat)
 | 0, _ => some ([], [])
 | n + 1, i =>
  match litPart f z parts i with
  | some (x, l) => (match litL f z parts n (i + 1) with
   | some (xs, m) => some (x :: xs, l ++ m)
   | none => none)
  | none => none
def immF (hp : Nat -> Ob) (e : Sh) (v : AV) : Option (e.den × List Nat) :=
 match v.ids with
 | [] => (match toVal hp e v with | some x => some (x, []) | none => none)
 | _ => none
def partsSeq (parts : List (Nat × AV)) (n sz : Nat) : Bool := parts.all (fun q => Nat.blt q.1 n) && nodup (parts.map (·.1)) && Nat.ble (n * sz) 16777216
def buildSliceAV (hp : Nat -> Ob) (d : Nat) (T : TypeId) (e : Sh) (n : Nat) (parts : List (Nat × AV)) : Option Res :=
 bif partsSeq parts n e.size then
  (match litL (fun v => absorb hp e v) e.zero parts n 0 with
   | some (xs, l) => bif nodup l && (hp d).isNone then some ⟨true, .sref d none [], [(d, .arr T e xs)], l, []⟩ else none
   | none => (match litL (immF hp e) e.zero parts n 0 with
    | some (xs, _) => some (.pure (.val (.sl T e) xs))
    | none => none))
 else none
def buildAV (hp : Nat -> Ob) (S : Sh) (nf : Nat) : List (Nat × AV) -> AV -> Option AV
 | [], v => some v
 | (j, a) :: r, v =>
  match S.sub (fp nf j) with
  | some s => bif fits hp s a && Nat.blt j nf then (match setA v (fp nf j) a with
    | some w => buildAV hp S nf r w
    | none => none) else none
  | none => none
def takeI {α : Type} (xs : List α) (i : Int) : List α := xs.take i.toNat
def dropI {α : Type} (xs : List α) (i : Int) : List α := xs.drop i.toNat
def sliceAV (S : Sh) (x : AV) (lo hi mx : Option AV) : Option Res :=
 match x with
 | .val (.sl T e) xs => if Sh.sl T e = S then (match lo, hi, mx with
  | none, some (.val (.int _) h), none => some (.when (decide ((0 : Int) <= h) && decide (h <= (xs.length : Int))) (.val (.sl T e) (takeI xs h)))
  | some (.val (.int _) l), none, none => some (.when (decide ((0 : Int) <= l) && decide (l <= (xs.length : Int))) (.val (.sl T e) (dropI xs l)))
  | some (.val (.int _) l), some (.val (.int _) h), none =>
   some (.when (decide ((0 : Int) <= l) && decide (l <= h) && decide (h <= (xs.length : Int))) (.val (.sl T e) (dropI (takeI xs h) l)))
  | none, some (.val (.int _) h), some (.val (.int _) m) => some (.when (decide (h = 0) && decide (m = 0)) (.nilv T e))
  | _, _, _ => none) else none
 | .nilv T e => if Sh.sl T e = S then (match lo, hi, mx with
  | none, some (.val (.int _) h), some (.val (.int _) m) => some (.when (decide (h = 0) && decide (m = 0)) (.nilv T e))
  | _, _, _ => none) else none
 | .val .str s => if Sh.str = S then (match lo, hi, mx with
  | none, some (.val (.int _) h), none => some (.when (decide ((0 : Int) <= h) && decide (h <= ((ByteArray.size s : Nat) : Int))) (.val .str (ByteArray.extract s 0 h.toNat)))
  | some (.val (.int _) l), none, none => some (.when (decide ((0 : Int) <= l) && decide (l <= ((ByteArray.size s : Nat) : Int))) (.val .str (ByteArray.extract s l.toNat (ByteArray.size s))))
  | some (.val (.int _) l), some (.val (.int _) h), none =>
   some (.when (decide ((0 : Int) <= l) && decide (l <= h) && decide (h <= ((ByteArray.size s : Nat) : Int))) (.val .str (ByteArray.extract s l.toNat h.toNat)))
  | _, _, _ => none) else none
 | _ => none
def convAV (X : Ctx) (hp : Nat -> Ob) (d : Nat) (src dst : TypeId) (x : AV) : Option Res :=
 match X.ty dst with
 | some (.int k, _) => (match x with
  | .val (.int _) n => some (.pure (.val (.int k) (k.wrap n)))
  | _ => none)
 | some (.str, _) => (match X.ty src with
  | some (.str, _) => (match x with
   | .val .str s => some (.pure (.val .str s))
   | _ => none)
  | some (.sl _ (.int .u8), _) => (match x with
   | .val (.sl _ (.int .u8)) xs => some (.pure (.val .str (bytesStr xs)))
   | .sref id none [] => (match hp id with
    | .arr _ (.int .u8) xs => some (.pure (.val .str (bytesStr xs)))
    | _ => none)
   | _ => none)
  | _ => none)
 | _ => none
def extractAV : AV -> Nat -> Option AV
 | .tcons a _, 0 => some a
 | .tcons _ b, i + 1 => extractAV b i
 | _, _ => none
def capsVal (hp : Nat -> Ob) : (ss : List Sh) -> List Nat -> Option (chain ss).den
 | [], [] => some ()
 | s :: r, id :: ids =>
  match (match hp id with
   | .box S v => if S = s then toVal hp s v else none
   | .cbox S x => cst S s x
   | _ => none), capsVal hp r ids with
  | some x, some y => some (x, y)
  | _, _ => none
 | _, _ => none
def gatherA (hp : Nat -> Ob) : (m : Mode) -> AV -> Option (m.inSh.den × List Nat × List Nat × List Nat)
 | .imm S, a => (match toVal hp S a with
  | some x => some (x, [], [], a.ids)
  | none => none)
 | .own S, a => (match absorb hp S a with
  | some (x, D) => some (x, D, D, [])
  | none => none)
 | .loan S, a => (match absorb hp S a with
  | some (x, D) => some (x, [], D, [])
  | none => none)
 | .lend T e, .nilv _ e' => if e' = e then some ([], [], [], []) else none
 | .lend T e, .sref id none [] => (match hp id with
  | .arr T' e' xs => (match cst (.sl T' e') (.sl T e) xs with
   | some x => some (x, [], [id], [])
   | none => none)
  | _ => none)
 | .lend T e, .sref id (some i) p => (match hp id with
  | .arr _ e' xs => (match getT e' (rdL xs i) p with
   | some ⟨s, y⟩ => (match cst s (.sl T e) y with
    | some x => some (x, [], [id], [])
    | none => none)
   | none => none)
  | _ => none)
 | .pO S, .ptr id none [] => (match hp id with
  | .box S' v => if S' = S then (match absorb hp S v with
   | some (x, D) => some (x, D, id :: D, [])
   | none => none) else none
  | _ => none)
 | .pI S, .ptr id none [] => (match hp id with
  | .box S' (.val s x) => if S' = S then (match cst s S x with
   | some y => some (y, [], [id], [])
   | none => none) else none
  | _ => none)
 | .pR S, .ptr id none [] => (match capsVal hp [S] [id] with
  | some x => some (x.1, [], [], id :: (hp id).ids)
  | none => none)
 | .clo f ss, .fn f' caps => bif Nat.beq f f' then (match capsVal hp ss caps with
   | some x => some (x, [], [], caps ++ caps.flatMap (fun id => (hp id).ids))
   | none => none) else none
 | _, _ => none
def gather (hp : Nat -> Ob) : (ms : List Mode) -> List AV -> Option ((insSh ms).den × List Nat × List Nat × List Nat)
 | [], [] => some ((), [], [], [])
 | m :: ms, a :: as =>
  match gatherA hp m a, gather hp ms as with
  | some (x, d, w, r), some (xs, ds, ws, rs) => some ((x, xs), d ++ ds, w ++ ws, r ++ rs)
  | _, _ => none
 | _, _ => none
def onlyC (hp : Nat -> Ob) (rd : List Nat) : Bool := rd.all fun id => match hp id with | .cbox _ _ => true | _ => false
def resAV : (rs : List (RK × Sh)) -> (ms : List Mode) -> (outSh rs ms).den -> Nat -> List AV × List (Nat × Ob) × Nat × (backSh ms).den
 | [], _, y, k => ([], [], k, y)
 | (.new, S) :: rs, ms, y, k =>
  match resAV rs ms y.2 (k + 10000) with
  | (vs, m, k'', b) => (.ptr k none [] :: vs, (k, .box S (.val S y.1)) :: m, k'', b)
 | (.own, S) :: rs, ms, y, k =>
  match intro S y.1 k with
  | (v, l, k') => (match resAV rs ms y.2 k' with
   | (vs, m, k'', b) => (v :: vs, l ++ m, k'', b))
 | (.imm, S) :: rs, ms, y, k =>
  match resAV rs ms y.2 k with
  | (vs, m, k'', b) => (.val S y.1 :: vs, m, k'', b)
def loanBack : (S : Sh) -> AV -> S.den -> Option (List (Nat × Ob))
 | .pair a b, .pair u v, z => (match loanBack a u z.1, loanBack b v z.2 with
  | some t, some t' => some (t ++ t')
  | _, _ => none)
 | .sl T e, .sref id none [], z => some [(id, .arr T e z)]
 | _, .nilv _ _, _ => some []
 | _, .val _ _, _ => some []
 | _, _, _ => none
def backA (hp : Nat -> Ob) : (m : Mode) -> AV -> Option m.inSh.den -> Nat -> Option (List (Nat × Ob) × List (Nat × Ob) × Nat)
 | .lend _ _, .nilv _ _, some _, k => some ([], [], k)
 | .lend T e, .sref id none [], some y, k => some ([(id, .arr T e y)], [], k)
 | .lend T e, .sref id (some i) p, some y, k => (match hp id with
  | .arr T' e' xs => (match setT e' (rdL xs i) p (.sl T e) y with
   | some z => some ([(id, .arr T' e' (xs.set i.toNat z))], [], k)
   | none => none)
  | _ => none)
 | .pO S, .ptr id none [], some y, k => (match intro S y k with
  | (v, l, k') => some ([(id, .box S v)], l, k'))
 | .pI S, .ptr id none [], some y, k => some ([(id, .box S (.val S y))], [], k)
 | .loan S, a, some y, k => (match loanBack S a y with
  | some t => some (t, [], k)
  | none => none)
 | .imm _, _, _, k => some ([], [], k)
 | .own _, _, _, k => some ([], [], k)
 | .pR _, _, _, k => some ([], [], k)
 | .clo _ _, _, _, k => some ([], [], k)
 | _, _, _, _ => none
def backAV (hp : Nat -> Ob) : (ms : List Mode) -> List AV -> (backSh ms).den -> Nat -> Option (List (Nat × Ob) × List (Nat × Ob))
 | [], _, _, _ => some ([], [])
 | m :: ms, a :: as, y, k =>
  match splitB m ms y with
  | (z, y') => (match backA hp m a z k with
   | some (t, l, k') => (match backAV hp ms as y' k' with
    | some (t', l') => some (t ++ t', l ++ l')
    | none => none)
   | none => none)
 | _ :: _, [], _, _ => none
def tupAV : List AV -> AV
 | [] => .tnil
 | a :: r => .tcons a (tupAV r)
def resultAV : List AV -> AV
 | [a] => a
 | l => tupAV l
def immRes : List (RK × Sh) -> Bool
 | [] => false
 | (.own, _) :: r => immRes r
 | (_, S) :: r => !S.flat || immRes r
def immBack : List Mode -> Bool
 | [] => false
 | .pI S :: r => !S.flat || immBack r
 | _ :: r => immBack r
def allNone (hp : Nat -> Ob) (l : List (Nat × Ob)) : Bool := l.all fun q => (hp q.1).isNone
def nkOf (hp : Nat -> Ob) : List Nat -> List Nat
 | [] => []
 | id :: r => match hp id with
  | .box _ _ => nkOf hp r
  | _ => id :: nkOf hp r
def callBy (hp : Nat -> Ob) (d : Nat) (c : Con) (as : List AV) : Option Res :=
 match gather hp c.ps as with
 | none => none
 | some (x, dr, wr, rd) =>
  bif nodup wr && disj wr rd && (!(immRes c.rs || immBack c.ps) || onlyC hp rd) then
   (match resAV c.rs c.ps (c.fn x) (d + 10000) with
    | (vs, l, k, b) => (match backAV hp c.ps as b k with
     | some (t, nw) => bif allNone hp (l ++ nw) then some ⟨c.pre x, resultAV vs, l ++ (t ++ nw), dr, nkOf hp wr⟩ else none
     | none => none))
  else none
def callCons (hp : Nat -> Ob) (d : Nat) (as : List AV) : List Con -> Option Res
 | [] => none
 | c :: r => match callBy hp d c as with
  | some x => some x
  | none => callCons hp d as r
def constAV (X : Ctx) (T : TypeId) : Value -> AV
 | .int k n => .val (.int k) n
 | .bool b => .val .bool b
 | .string s => .val .str s
 | .slice none 0 0 => match X.ty T with
  | some (.sl T' e, _) => .nilv T' e
  | _ => .unk
 | _ => .unk
def opnd (X : Ctx) (env : Nat -> AV) (T : TypeId) : Operand -> AV
 | .tmp t => env t
 | .const v => constAV X T v
 | .func f => .fn f []
 | .global _ => .unk
def oneI : AV -> Option Int
 | .val (.int _) n => some n
 | _ => none
def capIds : List AV -> Option (List Nat)
 | [] => some []
 | .ptr id none [] :: r => (match capIds r with
  | some l => some (id :: l)
  | none => none)
 | _ => none
def makeFuncAV (fn : Fn) (n : Nat) (vs : List AV) : Option Res :=
 match fn, n with
 | .func f, 0 => (match capIds vs with
  | some l => some (.pure (.fn f l))
  | none => none)
 | _, _ => none
def core (X : Ctx) (o : Oper) (ρ : TypeId -> Operand -> AV) (hp : Nat -> Ob) : Option Res :=
 let d := o.dst.getD 0
 match o.op with
 | .move x => some (.pure (ρ o.type x))
 | .assign x => some (.pure (ρ o.type x))
 | .pick c a b => (match ρ 0 c with
  | .val .bool t => bif t then some (.pure (ρ o.type a)) else some (.pure (ρ o.type b))
  | _ => none)
 | .alloc T => (match X.ty T, o.dst with
  | some (S, _), some d => bif (hp d).isNone then some ⟨true, .ptr d none [], [(d, .box S (zeroAV S))], [], []⟩ else none
  | _, _ => none)
 | .box T x => (match X.ty T, o.dst with
  | some (S, _), some d => bif fits hp S (ρ T x) && (hp d).isNone then some ⟨true, .ptr d none [], [(d, .box S (ρ T x))], [], []⟩ else none
  | _, _ => none)
 | .build T parts => (match X.ty T with
  | some (.pair p q, nf) => (match buildAV hp (.pair p q) nf (parts.toList.map fun q => (q.1, ρ 0 q.2)) (zeroAV (.pair p q)) with
   | some v => some (.pure v)
   | none => none)
  | _ => none)
 | .buildSlice T n parts => (match X.ty T, o.dst with
  | some (.sl E e, _), some d => buildSliceAV hp d E e n (parts.toList.map fun q => (q.1, ρ 0 q.2))
  | _, _ => none)
 | .load T a => (match X.ty T with
  | some (S, _) => loadAV hp S (ρ 0 a)
  | none => none)
 | .store T a x => (match X.ty T with
  | some (S, _) => storeAV hp S (ρ 0 a) (ρ T x)
  | none => none)
 | .nilCheck x => (match ρ 0 x with
  | .ptr id ix p => some (.pure (.ptr id ix p))
  | _ => none)
 | .binOp op T x y _ => (match nilQ X op T y (ρ T x) with
  | some r => some r
  | none => bop X op T (ρ T x) (ρ T y) hp)
 | .unOp op _ x => (match op, ρ 0 x with
  | .not, .val .bool b => some (.pure (.val .bool (!b)))
  | .neg, .val (.int k) n => some (.pure (.val (.int k) (k.wrap (0 - n))))
  | _, _ => none)
 | .convert src dst x => (match X.ty src with
  | some _ => convAV X hp d src dst (ρ 0 x)
  | none => none)
 | .makeFunc fn first caps => makeFuncAV fn first.size (caps.toList.map fun x => ρ 0 x)
 | .makeSlice T l c => (match X.ty T, o.dst with
  | some (.sl E e, _), some d => (match oneI (ρ 0 l), oneI (ρ 0 c) with
   | some n, some m => bif (hp d).isNone then some ⟨decide ((0 : Int) <= n) && decide (n <= (BIG : Int)) && decide (m = n), .sref d none [], [(d, .arr E e (List.replicate n.toNat e.zero))], [], []⟩ else none
   | _, _ => none)
  | _, _ => none)
 | .slice T x lo hi mx => (match X.ty T with
  | some (S, _) => sliceAV S (ρ 0 x) (lo.map (ρ 0)) (hi.map (ρ 0)) (mx.map (ρ 0))
  | none => none)
 | .fieldAddr T x f => (match X.ty T with
  | some (S, nf) => bif Nat.blt f nf then (match ρ 0 x with
   | .ptr id ix p => (match hp id with
    | .box S' _ => if S'.sub p = some S then some (.pure (.ptr id ix (p ++ fp nf f))) else none
    | .cbox S' _ => if S'.sub p = some S then some (.pure (.ptr id ix (p ++ fp nf f))) else none
    | .arr _ e _ => if e.sub p = some S then some (.pure (.ptr id ix (p ++ fp nf f))) else none
    | .iarr _ _ _ => none
    | .none => none)
   | .iptr s y => if s = S then (match getT s y (fp nf f) with
    | some ⟨t, z⟩ => some (.pure (.iptr t z))
    | none => none) else none
   | _ => none) else none
  | none => none)
 | .field T x f => (match X.ty T with
  | some (S, nf) => bif Nat.blt f nf && fits hp S (ρ 0 x) then (match getA (ρ 0 x) (fp nf f) with
   | some v => some (.pure v)
   | none => none) else none
  | none => none)
 | .indexAddr T x i => (match X.ty T with
  | some (.sl _ e, _) => indexAV hp e (ρ 0 x) (ρ 0 i)
  | _ => none)
 | .index T x i => (match X.ty T, ρ 0 x, ρ 0 i with
  | some (.str, _), .val .str s, .val (.int _) i => some (.when (decide ((0 : Int) <= i) && decide (i < ((ByteArray.size s : Nat) : Int))) (.val (.int .u8) (strAt s i)))
  | _, _, _ => none)
 | .extract t i => (match extractAV (ρ 0 t) i with
  | some v => bif v.isTup then none else some (.pure v)
  | none => none)
 | .call c => (match c.callee with
  | .builtin .len => (match c.args.toList, c.argTypes.toList with
   | [x], T :: _ => (match X.ty T with
    | some (S, _) => lenAV hp S (ρ 0 x)
    | none => none)
   | _, _ => none)
  | .builtin .append => (match c.args.toList, c.argTypes.toList, o.dst with
   | [a, b], [T, T'], some d => if T = T' then (match X.ty T with
    | some (.sl E e, _) => appendAV hp d E e (ρ T a) (ρ T b)
    | _ => none) else none
   | _, _, _ => none)
  | .value f => (match ρ 0 f with
   | .fn g caps => callCons hp d ((c.args.toList.map fun x => ρ 0 x) ++ caps.map fun id => .ptr id none []) (X.con g)
   | _ => none)
  | _ => none)
 | _ => none
def rho (X : Ctx) (env : Nat -> AV) : TypeId -> Operand -> AV := fun T x => opnd X env T x
def Op.isMove : Op -> Bool
 | .move _ => true
 | .assign _ => true
 | .extract _ _ => true
 | _ => false
def argIds (X : Ctx) (env : Nat -> AV) (o : Oper) : List Nat := bif Op.isMove o.op then [] else o.op.operands.toList.flatMap fun x => (opnd X env 0 x).ids
def foot (X : Ctx) (s : St) (o : Oper) : List Nat :=
 let l := argIds X s.env o
 l ++ l.flatMap fun id => (s.hp id).ids
def restr (hp : Nat -> Ob) (l : List Nat) : Nat -> Ob := fun id => bif mem id l then hp id else .none
def newOk (s : St) (l : List Nat) : List (Nat × Ob) -> Bool
 | [] => true
 | u :: r => (bif (s.hp u.1).isNone then Nat.blt (u.1 % 10000) 5000 else mem u.1 l) && newOk s l r
def St.put (s : St) (dst : Option Nat) (v : AV) : St :=
 match dst with
 | some d => ⟨upd s.env d v, s.hp⟩
 | none => s
def St.app (s : St) (dst : Option Nat) (r : Res) : St :=
 let s1 := (s.scrub r.dr).killN r.nk
 St.put ⟨s1.env, updL s1.hp r.up⟩ dst r.v
def dstOk (X : Ctx) : Option Nat -> Bool
 | some d => Nat.blt d X.n
 | none => true
def step (X : Ctx) (o : Oper) (s : St) : Option (Bool × St) :=
 let l := foot X s o
 match core X o (rho X s.env) (restr s.hp l) with
 | some r => bif dstOk X o.dst && newOk s l r.up && nodup (r.up.map (·.1)) && disj (r.up.map (·.1)) r.dr && subl r.dr l then some (r.c, s.app o.dst r) else none
 | none => none
def opDst (ops : Array Oper) (j : Nat) : Option Nat := (ops[j]?).bind (·.dst)
def splitG {R : Type} (ops : Array Oper) (o : Oper) (s : St) (f : St -> Option R) : Option R :=
 match o.guard with
 | none => f s
 | some (j, _) => (match opDst ops j with
  | some t => (match s.env t with
   | .val .bool b => bif b then f (s.put (some t) (.val .bool true)) else f (s.put (some t) (.val .bool false))
   | .tnil => f s
   | _ => none)
  | none => none)
def wantedA (ops : Array Oper) (o : Oper) (s : St) : Option Bool :=
 match o.guard with
 | none => some true
 | some (j, want) => (match opDst ops j with
  | some t => (match s.env t with
   | .val .bool b => some (b == want)
   | .tnil => some false
   | _ => none)
  | none => none)
def gstep (X : Ctx) (ops : Array Oper) (o : Oper) (s : St) : Option (Bool × St) :=
 match wantedA ops o s with
 | some w => bif w then step X o s else bif dstOk X o.dst then some (true, s.put o.dst .tnil) else none
 | none => none
def evOps {R : Type} (X : Ctx) (ops : Array Oper) : List Oper -> St -> (St -> Option R) -> Option R
 | [], s, K => K s
 | o :: r, s, K => splitG ops o s fun s1 => (match gstep X ops o s1 with
   | some (c, s2) => bif c then evOps X ops r s2 K else none
   | none => none)
structure Info where
 o : Oper
 i : Nat
 foot : List Nat
 w : List Nat     -- what it turns or makes
 tk : List Nat    -- what it takes away
 res : List Nat   -- what its results lead to
 cl : Bool        -- all that it looks at is known
 tch : List Nat   -- what it touches
def isNil {α : Type} : List α -> Bool
 | [] => true
 | _ => false
def AV.whole : AV -> Bool
 | .unk => false
 | .pair a b => a.whole && b.whole
 | .tcons a b => a.whole && b.whole
 | _ => true
def Ob.whole : Ob -> Bool
 | .none => false
 | .box _ v => v.whole
 | _ => true
def pj (op : Op) (v : AV) : AV :=
 match op with
 | .extract _ i => (extractAV v i).getD .tnil
 | _ => v
def lkOf (ops : Array Oper) (o : Oper) (s : St) : List Nat := (o.looksAt ops).flatMap fun t => (pj o.op (s.env t)).ids
def resOf (r : Res) : List Nat := r.up.map (·.1) ++ ((r.up.flatMap fun q => q.2.ids) ++ r.v.ids)
def infoOf (X : Ctx) (ops : Array Oper) (o : Oper) (i : Nat) (s : St) : Option Info :=
 match wantedA ops o s with
 | none => none
 | some w => bif w then
   (let l := foot X s o
    match core X o (rho X s.env) (restr s.hp l) with
    | some r => some ⟨o, i, l, r.up.map (·.1), r.dr ++ r.nk, resOf r, ((o.looksAt ops).all fun t => (pj o.op (s.env t)).whole) && (l.all fun id => (s.hp id).whole),
      lkOf ops o s ++ (l ++ ((l.flatMap fun id => (s.hp id).ids) ++ resOf r))⟩
    | none => none)
  else some ⟨o, i, [], [], [], [], true, []⟩
def uniN : List Nat -> List Nat -> List Nat
 | [], l => l
 | x :: a, l => bif mem x l then uniN a l else uniN a (x :: l)
def closure (ops : List Oper) : List (List Nat) :=
 ops.foldl (init := []) fun acc o =>
  acc ++ [o.after.toList.foldl (init := []) fun l e => bif Region.binds .any e then uniN (e.on :: acc.getD e.on []) l else l]
def apartI (ops : Array Oper) (a b : Info) : Bool :=
 a.o.apart ops b.o && disj a.w (b.foot ++ b.w) && disj b.w a.foot && disj a.tk b.res && (isNil a.tk || b.cl) && disj b.tk a.tch
def okWith (ops : Array Oper) (cl : List (List Nat)) (acc : List Info) (b : Info) : Bool :=
 acc.all fun a => mem a.i (cl.getD b.i []) || apartI ops a b
def backE (o : Oper) (i : Nat) : Bool := o.after.toList.all fun e => !Region.binds .any e || Nat.blt e.on i
def evDraw {R : Type} (X : Ctx) (ops : Array Oper) (cl : List (List Nat)) : List Oper -> Nat -> List Info -> St -> (St -> Option R) -> Option R
 | [], _, _, s, K => K s
 | o :: r, i, acc, s, K => splitG ops o s fun s1 => (match infoOf X ops o i s1, gstep X ops o s1 with
   | some f, some (c, s2) => bif okWith ops cl acc f && backE o i then (bif c then evDraw X ops cl r (i + 1) (f :: acc) s2 K else none) else none
   | _, _ => none)
def AV.fz (id : Nat) (T : TypeId) (e : Sh) (xs : List e.den) : AV -> AV
 | .pair a b => mkPair (a.fz id T e xs) (b.fz id T e xs)
 | .tcons a b => .tcons (a.fz id T e xs) (b.fz id T e xs)
 | .sref j ix p => bif Nat.beq j id then (match ix with
   | none => .val (.sl T e) xs
   | some i => (match getT e (rdL xs i) p with | some ⟨s, x⟩ => .val s x | none => .unk)) else .sref j ix p
 | .ptr j ix p => bif Nat.beq j id then (match ix with
   | none => .unk
   | some i => (match getT e (rdL xs i) p with | some ⟨s, x⟩ => .iptr s x | none => .unk)) else .ptr j ix p
 | .fn f caps => bif mem id caps then .unk else .fn f caps
 | v => v
def St.fzId (s : St) (id : Nat) : Option St :=
 match s.hp id with
 | .arr T e xs => some ⟨fun t => (s.env t).fz id T e xs, fun j => bif Nat.beq j id then .none else (s.hp j).mapA (AV.fz id T e xs)⟩
 | .iarr T e xs => some ⟨fun t => (s.env t).fz id T e xs, fun j => bif Nat.beq j id then .none else (s.hp j).mapA (AV.fz id T e xs)⟩
 | _ => none
def St.fzIds (s : St) : List Nat -> Option St
 | [] => some s
 | id :: r => match s.fzId id with
  | some s' => s'.fzIds r
  | none => none
def St.fziId (s : St) (id : Nat) : Option St :=
 match s.hp id with
 | .arr T e xs => some ⟨(s.killN [id]).env, updL (s.killN [id]).hp [(id, .iarr T e xs)]⟩
 | _ => none
def St.fziIds (s : St) : List Nat -> Option St
 | [] => some s
 | id :: r => match s.fziId id with
  | some s' => s'.fziIds r
  | none => none
def arrIds (hp : Nat -> Ob) (v : AV) : List Nat :=
 v.ids.flatMap fun id => match hp id with | .arr _ _ _ => [id] | .iarr _ _ _ => [id] | .box _ u => u.ids | _ => []
def St.fzSlots (s : St) : List Nat -> Option St
 | [] => some s
 | t :: r => match (bif Nat.blt t 100000 then s.fzIds (arrIds s.hp (s.env t)) else s.fziIds (arrIds s.hp (s.env (t - 100000)))) with
  | some s' => s'.fzSlots r
  | none => none
def immAV (hp : Nat -> Ob) : AV -> Option (AV × List Nat)
 | .val s x => some (.val s x, [])
 | .nilv T e => some (.val (.sl T e) [], [])
 | .sref id none [] => match hp id with
  | .arr T e xs => some (.val (.sl T e) xs, [id])
  | _ => none
 | .sref id (some i) p => match hp id with
  | .arr _ e xs => (match getT e (rdL xs i) p with
   | some ⟨.sl T' e', y⟩ => some (.val (.sl T' e') y, [id])
   | _ => none)
  | _ => none
 | .pair a b => match immAV hp a, immAV hp b with
  | some (u, l), some (v, m) => some (mkPair u v, l ++ m)
  | _, _ => none
 | _ => none
structure Canon where
 v : AV
 up : List (Nat × Ob)
 mv : List Nat
 fr : List Nat
 as : List Nat
 k : Nat
def canonAV (hp : Nat -> Ob) : Kd -> AV -> Nat -> Option Canon
 | .asis, v, k => some ⟨v, [], [], [], v.ids, k⟩
 | .own, .nilv T e, k => some ⟨.sref k none [], [(k, .arr T e [])], [], [], [], k + 10000⟩
 | .own, .sref id none [], k => (match hp id with
  | .arr T e xs => some ⟨.sref k none [], [(k, .arr T e xs)], [id], [], [], k + 10000⟩
  | _ => none)
 | .imm, v, k => (match immAV hp v with
  | some (u, l) => some ⟨u, [], [], l, [], k⟩
  | none => none)
 | .pair a b, v, k => (match getA v [false], getA v [true] with
  | some u, some w => (match canonAV hp a u k with
   | some x => (match canonAV hp b w x.k with
    | some y => some ⟨mkPair x.v y.v, x.up ++ y.up, x.mv ++ y.mv, x.fr ++ y.fr, x.as ++ y.as, y.k⟩
    | none => none)
   | none => none)
  | _, _ => none)
 | _, _, _ => none
def seedOf (id : Nat) : Nat := bif Nat.blt (id % 10000) 2500 then 2500 + id else 4000 + id / 1000000000
structure Mask where
 env : List (Nat × AV)
 up : List (Nat × Ob)
 mv : List Nat
 fr : List Nat
 as : List Nat
def maskSlots (s : St) : List (Nat × Kd) -> Option Mask
 | [] => some ⟨[], [], [], [], []⟩
 | (t, kd) :: r => match canonAV s.hp kd (s.env t) (seedOf t), maskSlots s r with
  | some c, some m => some ⟨(t, c.v) :: m.env, c.up ++ m.up, c.mv ++ m.mv, c.fr ++ m.fr, c.as ++ m.as⟩
  | _, _ => none
def maskBoxes (s : St) : List (Nat × Kd) -> Option Mask
 | [] => some ⟨[], [], [], [], []⟩
 | (id, kd) :: r => match s.hp id, maskBoxes s r with
  | .box S v, some m => (match canonAV s.hp kd v (seedOf id) with
   | some c => some ⟨m.env, (id, .box S c.v) :: c.up ++ m.up, c.mv ++ m.mv, c.fr ++ m.fr, c.as ++ m.as⟩
   | none => none)
  | .cbox S x, some m => some ⟨m.env, (id, .cbox S x) :: m.up, m.mv, m.fr, m.as⟩
  | _, _ => none
def maskArrs (s : St) : List Nat -> Option (List (Nat × Ob))
 | [] => some []
 | id :: r => match s.hp id, maskArrs s r with
  | .arr T e xs, some l => some ((id, .arr T e xs) :: l)
  | _, _ => none
def maskOk (X : Ctx) (K : Keep) (a b : Mask) (l : List (Nat × Ob)) : Bool :=
 let keys := (l ++ (b.up ++ a.up)).map (·.1)
 nodup keys && nodup (K.arrs ++ (b.mv ++ a.mv)) && disj (a.fr ++ b.fr) (K.arrs ++ (b.mv ++ a.mv))
  && a.env.all (fun q => Nat.blt q.1 X.n && subl q.2.ids keys) && (l ++ (b.up ++ a.up)).all (fun u => subl u.2.ids keys)
  && (b.up ++ a.up).all (fun u => Nat.blt (u.1 % 10000) 5000 || (mem u.1 (K.boxes.map (·.1))))
  && subl (a.as ++ b.as) (K.arrs ++ K.boxes.map (·.1))
def mask (X : Ctx) (K : Keep) (s : St) : Option St :=
 match maskSlots s K.slots, maskBoxes s K.boxes, maskArrs s K.arrs with
 | some a, some b, some l =>
  bif maskOk X K a b l then some ⟨updL (fun _ => .unk) a.env, updL (fun _ => .none) (l ++ (b.up ++ a.up))⟩ else none
 | _, _, _ => none
inductive Ex where
 | normal
 | exit (id : Nat)
 | ret
open Classical in
noncomputable def agree {R : Type} (x y : Option R) : Option R := if x = y then x else none
theorem Qo7 {R : Type} {x y : Option R} {z : R} (h : agree x y = some z) : x = some z /\ y = some z := by
 unfold agree at h
 split at h
 ·rename_i e; exact ⟨h, e ▸ h⟩
 ·cases h
theorem Quu {R : Type} {x : Option R} : agree x x = x := by unfold agree; rw [if_pos rfl]
noncomputable def ev {R : Type} (X : Ctx) (M : List Bool -> St -> Option R) : Code -> List Bool -> (Ex -> St -> Option R) -> St -> Option R
 | .skip, _, K, s => K .normal s
 | .region id ops draw, _, K, s =>
  match s.fzSlots (X.fz id) with
  | some s => bif draw then evDraw X ops (closure ops.toList) ops.toList 0 [] s (K .normal) else evOps X ops ops.toList s (K .normal)
  | none => none
 | .seq a b, p, K, s => ev X M a (false :: p) (fun e s' => match e with | .normal => ev X M b (true :: p) K s' | e => K e s') s
 | .cond (.tmp t) a b, p, K, s => (match s.env t with
  | .val .bool c => bif c then ev X M a (false :: p) K (s.put (some t) (.val .bool true)) else ev X M b (true :: p) K (s.put (some t) (.val .bool false))
  | .nq e => bif e then agree (ev X M a (false :: p) K s) (ev X M b (true :: p) K s) else ev X M b (true :: p) K s
  | _ => none)
 | .block id b, p, K, s => ev X M b (false :: p) (fun e s' => match e with
  | .exit i => bif Nat.beq i id then K .normal s' else K (.exit i) s'
  | e => K e s') s
 | .loop _, p, _, s => (match mask X (X.keep p) s with
  | some s' => M p s'
  | none => none)
 | .exit id, _, K, s => K (.exit id) s
 | .ret, _, K, s => K .ret s
 | _, _, _, _ => none
noncomputable def evAt {R : Type} (X : Ctx) (M : List Bool -> St -> Option R) : Code -> List Bool -> List Bool -> (Ex -> St -> Option R) -> St -> Option R
 | .seq a b, false :: q, p, K, s => evAt X M a q (false :: p) (fun e s' => match e with | .normal => ev X M b (true :: p) K s' | e => K e s') s
 | .seq _ b, true :: q, p, K, s => evAt X M b q (true :: p) K s
 | .cond _ a _, false :: q, p, K, s => evAt X M a q (false :: p) K s
 | .cond _ _ b, true :: q, p, K, s => evAt X M b q (true :: p) K s
 | .block id b, false :: q, p, K, s => evAt X M b q (false :: p) (fun e s' => match e with
  | .exit i => bif Nat.beq i id then K .normal s' else K (.exit i) s'
  | e => K e s') s
 | .loop b, [], p, K, s => ev X M b (false :: p) (fun e s' => match e with
  | .normal => (match mask X (X.keep p) s' with | some s'' => M p s'' | none => none)
  | e => K e s') s
 | .loop b, false :: q, p, K, s => evAt X M b q (false :: p) (fun e s' => match e with
  | .normal => (match mask X (X.keep p) s' with | some s'' => M p s'' | none => none)
  | e => K e s') s
 | _, _, _, _, _ => none
def capsInit : (ss : List Sh) -> (chain ss).den -> Nat -> List Nat × List (Nat × Ob)
 | [], _, _ => ([], [])
 | s :: r, x, k => match capsInit r x.2 (k + 1) with
  | (ids, l) => (k :: ids, (k, .cbox s x.1) :: l)
def initAV : (m : Mode) -> m.inSh.den -> Nat -> AV × List (Nat × Ob)
 | .imm S, x, _ => (.val S x, [])
 | .own S, x, k => match intro S x k with | (v, l, _) => (v, l)
 | .lend T e, x, k => (.sref k none [], [(k, .arr T e x)])
 | .pO S, x, k => match intro S x (k + 1) with | (v, l, _) => (.ptr k none [], (k, .box S v) :: l)
 | .pI S, x, k => (.ptr k none [], [(k, .box S (.val S x))])
 | .pR S, x, k => (.ptr k none [], [(k, .cbox S x)])
 | .clo f ss, x, k => match capsInit ss x k with | (ids, l) => (.fn f ids, l)
 | .loan S, x, k => match intro S x k with | (v, l, _) => (v, l)
def pseed (i : Nat) : Nat := 1000000000 * i + 5000
def initL : (ms : List Mode) -> (insSh ms).den -> Nat -> List (Nat × AV) × List (Nat × Ob)
 | [], _, _ => ([], [])
 | m :: r, x, i => match initAV m x.1 (pseed i), initL r x.2 (i + 1) with
  | (v, l), (vs, ls) => ((i, v) :: vs, l ++ ls)
def initSt (ms : List Mode) (x : (insSh ms).den) : St :=
 match initL ms x 0 with
 | (vs, l) => ⟨updL (fun _ => .unk) vs, updL (fun _ => .none) l⟩
def loanOut (hp : Nat -> Ob) : (S : Sh) -> S.den -> Nat -> Option (S.den × List Nat)
 | .sl T e, _, k => (match hp k with
  | .arr T' e' xs => (match cst (.sl T' e') (.sl T e) xs with
   | some y => some (y, [k])
   | none => none)
  | _ => none)
 | .pair a b, x, k => (match loanOut hp a x.1 k, loanOut hp b x.2 (k + 10000 * a.nsl) with
  | some (y, l), some (z, m) => some ((y, z), l ++ m)
  | _, _ => none)
 | .int _, x, _ => some (x, [])
 | .bool, x, _ => some (x, [])
 | .str, x, _ => some (x, [])
 | .unit, x, _ => some (x, [])
def backOut (hp : Nat -> Ob) : (ms : List Mode) -> (insSh ms).den -> Nat -> Option ((backSh ms).den × List Nat)
 | [], _, _ => some ((), [])
 | .lend T e :: r, x, i => (match hp (pseed i) with
  | .arr T' e' xs => (match cst (.sl T' e') (.sl T e) xs, backOut hp r x.2 (i + 1) with
   | some y, some (z, E) => some ((y, z), pseed i :: E)
   | _, _ => none)
  | _ => none)
 | .pO S :: r, x, i => (match hp (pseed i) with
  | .box S' v => if S' = S then (match absorb hp S v, backOut hp r x.2 (i + 1) with
   | some (y, D), some (z, E) => some ((y, z), D ++ E)
   | _, _ => none) else none
  | _ => none)
 | .pI S :: r, x, i => (match hp (pseed i) with
  | .box S' (.val s y) => if S' = S then (match cst s S y, backOut hp r x.2 (i + 1) with
   | some y, some (z, E) => some ((y, z), E)
   | _, _ => none) else none
  | _ => none)
 | .loan S :: r, x, i => (match loanOut hp S x.1 (pseed i), backOut hp r x.2 (i + 1) with
  | some (z, D), some (y, E) => some ((z, y), D ++ E)
  | _, _ => none)
 | .imm _ :: r, x, i => backOut hp r x.2 (i + 1)
 | .own _ :: r, x, i => backOut hp r x.2 (i + 1)
 | .pR _ :: r, x, i => backOut hp r x.2 (i + 1)
 | .clo _ _ :: r, x, i => backOut hp r x.2 (i + 1)
def retAV (X : Ctx) (s : St) : ResultVar -> Option AV
 | .tmp t => some (s.env t)
 | .cell a T => match s.env a, X.ty T with
  | .ptr id none [], some (S, _) => (match s.hp id with
   | .box S' v => if S' = S then some v else none
   | _ => none)
  | _, _ => none
structure Out (rs : List (RK × Sh)) (ms : List Mode) where
 y : (outSh rs ms).den
 own : List Nat
 fr : List Nat
def retOut (X : Ctx) (s : St) : (rs : List (RK × Sh)) -> (ms : List Mode) -> (insSh ms).den -> List ResultVar -> Option (Out rs ms)
 | [], ms, x, [] => (match backOut s.hp ms x 0 with
  | some (y, D) => some ⟨y, D, []⟩
  | none => none)
 | (.new, S) :: rs, ms, x, v :: vs => (match retAV X s v, retOut X s rs ms x vs with
  | some (.ptr id none []), some o => (match s.hp id with
   | .box S' u => if S' = S then (match immAV s.hp u with
    | some (uv, l) => (match toVal s.hp S uv with
     | some y => bif Nat.blt (id % 10000) 5000 then some ⟨(y, o.y), id :: o.own, l ++ o.fr⟩ else none
     | none => none)
    | none => none) else none
   | _ => none)
  | _, _ => none)
 | (.own, S) :: rs, ms, x, v :: vs => (match retAV X s v, retOut X s rs ms x vs with
  | some a, some o => (match absorb s.hp S a with
   | some (y, D) => some ⟨(y, o.y), D ++ o.own, o.fr⟩
   | none => none)
  | _, _ => none)
 | (.imm, S) :: rs, ms, x, v :: vs => (match retAV X s v, retOut X s rs ms x vs with
  | some a, some o => (match immAV s.hp a with
   | some (u, l) => (match toVal s.hp S u with
    | some y => some ⟨(y, o.y), o.own, l ++ o.fr⟩
    | none => none)
   | none => none)
  | _, _ => none)
 | _, _, _, _ => none
def kRet (X : Ctx) (fn : Func) (rs : List (RK × Sh)) (ms : List Mode) (x : (insSh ms).den) : Ex -> St -> Option (outSh rs ms).den
 | .exit _, _ => none
 | _, s => match retOut X s rs ms x fn.results.toList with
  | some o => bif nodup o.own && disj o.fr o.own then some o.y else none
  | none => none
noncomputable def evBody (X : Ctx) (fn : Func) (rs : List (RK × Sh)) (ms : List Mode) (M : (insSh ms).den -> List Bool -> St -> Option (outSh rs ms).den) (x : (insSh ms).den) : Option (outSh rs ms).den :=
 match fn.body with
 | some c => bif nodup ((initL ms x 0).2.map (·.1)) && Nat.beq X.n fn.ntmps && Nat.ble ms.length X.n then ev X (M x) c [] (kRet X fn rs ms x) (initSt ms x) else none
 | none => none
noncomputable def rounds (X : Ctx) (fn : Func) (rs : List (RK × Sh)) (ms : List Mode) (x : (insSh ms).den) : Nat -> List Bool -> St -> Option (outSh rs ms).den
 | 0, _, _ => none
 | k + 1, p, s => match fn.body with
  | some c => evAt X (rounds X fn rs ms x k) c p.reverse [] (kRet X fn rs ms x) s
  | none => none
noncomputable def evFn (X : Ctx) (fn : Func) (rs : List (RK × Sh)) (ms : List Mode) (k : Nat) (x : (insSh ms).den) : Option (outSh rs ms).den :=
 evBody X fn rs ms (fun x => rounds X fn rs ms x k) x
end Go.Vm

set_option linter.unusedVariables false
set_option linter.unusedSimpArgs false
namespace Go.Vm
theorem Qav {x : Nat} : ∀ {l : List Nat}, mem x l = true ↔ x ∈ l
 | [] => by simp [mem]
 | y :: r => by
  have ih := @Qav x r
  simp only [mem, Bool.or_eq_true, List.mem_cons, ih]
  constructor
  ·rintro (h | h)
   ·exact .inl (Nat.eq_of_beq_eq_true h)
   ·exact .inr h
  ·rintro (h | h)
   ·exact .inl (by subst h; exact Nat.beq_refl _)
   ·exact .inr h
theorem Qaq {x : Nat} {l : List Nat} : mem x l = false ↔ x ∉ l := by
 rw [<- Qav]; simp
theorem Qb1 : ∀ {l : List Nat}, nodup l = true ↔ l.Nodup
 | [] => by simp [nodup]
 | x :: r => by simp [nodup, @Qb1 r, <- Qav]
theorem Qdo {m : List Nat} : ∀ {l : List Nat}, disj l m = true ↔ ∀ x ∈ l, x ∉ m
 | [] => by simp [disj]
 | x :: r => by simp [disj, @Qdo m r, <- Qav]
theorem Qmr {m : List Nat} : ∀ {l : List Nat}, subl l m = true ↔ ∀ x ∈ l, x ∈ m
 | [] => by simp [subl]
 | x :: r => by simp [subl, @Qmr m r, <- Qav]
theorem Qa0 {α : Type} (f : Nat -> α) (k : Nat) (v : α) : upd f k v k = v := by simp [upd]
theorem Qa5 {α : Type} (f : Nat -> α) {k t : Nat} (v : α) (h : t ≠ k) : upd f k v t = f t := by
 have : Nat.beq t k = false := by rw [Bool.eq_false_iff]; intro e; exact h (Nat.eq_of_beq_eq_true e)
 simp [upd, this]
theorem Qbd {α : Type} : ∀ (l : List (Nat × α)) (f : Nat -> α) {t : Nat}, t ∉ l.map (·.1) -> updL f l t = f t
 | [], f, t, _ => rfl
 | x :: r, f, t, h => by
  simp only [List.map_cons, List.mem_cons, not_or] at h
  rw [updL, Qbd r _ h.2, Qa5 _ _ h.1]
theorem Qfj {α : Type} : ∀ (l : List (Nat × α)) (f : Nat -> α) {t : Nat} {v : α}, (l.map (·.1)).Nodup -> (t, v) ∈ l -> updL f l t = v
 | x :: r, f, t, v, hn, h => by
  simp only [List.map_cons, List.nodup_cons] at hn
  rcases List.mem_cons.1 h with rfl | h
  ·rw [updL, Qbd r _ hn.1, Qa0]
  ·exact Qfj r _ hn.2 h
theorem Qby {α : Type} : ∀ (l : List (Nat × α)) (f : Nat -> α) (t : Nat), (l.map (·.1)).Nodup ->
  (t ∉ l.map (·.1) /\ updL f l t = f t) ∨ ∃ v, (t, v) ∈ l /\ updL f l t = v := by
 intro l f t hn
 by_cases h : t ∈ l.map (·.1)
 ·obtain ⟨x, hx, rfl⟩ := List.mem_map.1 h
  exact .inr ⟨x.2, hx, Qfj l f hn hx⟩
 ·exact .inl ⟨h, Qbd l f h⟩
abbrev Blks := Nat -> Prop
def Ones (cs : List Value) : Prop := ∀ v ∈ cs, v.oneCell' = true
def Im (w : World) (st : Blks) : (S : Sh) -> S.den -> List Value -> Prop
 | .int k, x, cs => cs = [.int k x]
 | .bool, x, cs => cs = [.bool x]
 | .str, x, cs => cs = [.string x]
 | .unit, _, cs => cs = []
 | .pair a b, x, cs => ∃ c1 c2, cs = c1 ++ c2 /\ Im w st a x.1 c1 /\ Im w st b x.2 c2
 | .sl _ e, xs, cs => ∃ (A : Option Addr) (cap : Nat), cs = [.slice A xs.length cap] /\ xs.length <= cap /\
   (xs ≠ [] -> ∃ b o, A = some ⟨b, o, none⟩ /\ st b /\ ∀ (i : Nat) (x : e.den), xs[i]? = some x -> ∃ cc, Im w st e x cc /\
    ∀ j v, cc[j]? = some v -> w.cell? ⟨b, o + i * e.size + j, none⟩ = some v)
def OwL {α : Type} (R : α -> List Value -> Blks -> Prop) (sz : Nat) : List α -> List Value -> Blks -> Prop
 | [], _, _ => True
 | x :: xs, cs, F => ∃ F1 F2 : Blks, (∀ b, F1 b -> F2 b -> False) /\ (∀ b, F1 b -> F b) /\ (∀ b, F2 b -> F b) /\
   R x (cs.take sz) F1 /\ OwL R sz xs (cs.drop sz) F2
def Ow (w : World) : (S : Sh) -> S.den -> List Value -> Blks -> Prop
 | .int k, x, cs, _ => cs = [.int k x]
 | .bool, x, cs, _ => cs = [.bool x]
 | .str, x, cs, _ => cs = [.string x]
 | .unit, _, cs, _ => cs = []
 | .pair a b, x, cs, F => ∃ c1 c2 F1 F2, cs = c1 ++ c2 /\ (∀ b, F1 b -> F2 b -> False) /\ (∀ b, F1 b -> F b) /\ (∀ b, F2 b -> F b) /\
   Ow w a x.1 c1 F1 /\ Ow w b x.2 c2 F2
 | .sl T e, xs, cs, F => (xs = [] /\ ∃ A, cs = [.slice A 0 0]) ∨
   ∃ (b cap : Nat) (arr : Array Value) (F' : Blks), cs = [.slice (some ⟨b, 0, none⟩) xs.length cap] /\ F b /\ ¬ F' b /\ (∀ c, F' c -> F c) /\
    w.heap[b]? = some (.cells arr T (0, 0)) /\ xs.length <= cap /\ cap <= maxLen /\ arr.size = cap * e.size /\ OwL (fun x c G => Ow w e x c G) e.size xs arr.toList F'
theorem Qd9 {α : Type} {R R' : α -> List Value -> Blks -> Prop} {sz : Nat} : ∀ {xs : List α} {cs : List Value} {F : Blks},
  (∀ x c G, (∀ b, G b -> F b) -> R x c G -> R' x c G) -> OwL R sz xs cs F -> OwL R' sz xs cs F
 | [], _, _, _, _ => trivial
 | x :: xs, cs, F, h, ⟨F1, F2, h1, h2, h3, h4, h5⟩ =>
  ⟨F1, F2, h1, h2, h3, h _ _ _ h2 h4, Qd9 (fun x c G hG => h x c G (fun b hb => h3 b (hG b hb))) h5⟩
theorem Qms {α : Type} {R : α -> List Value -> Blks -> Prop} {sz : Nat} : ∀ {xs : List α} {cs : List Value} {F F' : Blks},
  (∀ b, F b -> F' b) -> OwL R sz xs cs F -> OwL R sz xs cs F'
 | [], _, _, _, _, _ => trivial
 | x :: xs, cs, F, F', h, ⟨F1, F2, h1, h2, h3, h4, h5⟩ => ⟨F1, F2, h1, fun b hb => h b (h2 b hb), fun b hb => h b (h3 b hb), h4, h5⟩
theorem Ow_up {w : World} : ∀ {S : Sh} {x : S.den} {cs : List Value} {F F' : Blks}, (∀ b, F b -> F' b) -> Ow w S x cs F -> Ow w S x cs F'
 | .int _, _, _, _, _, _, h => h
 | .bool, _, _, _, _, _, h => h
 | .str, _, _, _, _, _, h => h
 | .unit, _, _, _, _, _, h => h
 | .pair _ _, _, _, _, _, hF, ⟨c1, c2, F1, F2, e, d, h1, h2, h3, h4⟩ => ⟨c1, c2, F1, F2, e, d, fun b hb => hF b (h1 b hb), fun b hb => hF b (h2 b hb), h3, h4⟩
 | .sl _ _, _, _, _, _, hF, h => by
  rcases h with h | ⟨b, cap, arr, F', e, h1, h2, h3, h4⟩
  ·exact .inl h
  ·exact .inr ⟨b, cap, arr, F', e, hF _ h1, h2, fun c hc => hF _ (h3 c hc), h4⟩
theorem Qbw {w w' : World} : ∀ {S : Sh} {x : S.den} {cs : List Value} {F : Blks}, (∀ b, F b -> w'.heap[b]? = w.heap[b]?) -> Ow w S x cs F -> Ow w' S x cs F
 | .int _, _, _, _, _, h => h
 | .bool, _, _, _, _, h => h
 | .str, _, _, _, _, h => h
 | .unit, _, _, _, _, h => h
 | .pair _ _, _, _, _, hF, ⟨c1, c2, F1, F2, e, d, h1, h2, h3, h4⟩ =>
  ⟨c1, c2, F1, F2, e, d, h1, h2, Qbw (fun b hb => hF b (h1 b hb)) h3, Qbw (fun b hb => hF b (h2 b hb)) h4⟩
 | .sl _ e, _, _, _, hF, h => by
  rcases h with h | ⟨b, cap, arr, F', e, h1, h2, h3, h4, h5, h6, h7, h8⟩
  ·exact .inl h
  ·exact .inr ⟨b, cap, arr, F', e, h1, h2, h3, by rw [hF b h1]; exact h4, h5, h6, h7,
    Qd9 (fun x c G hG hr => Qbw (fun b hb => hF b (h3 b (hG b hb))) hr) h8⟩
theorem Qc1 {w w' : World} {b o : Nat} (h : w'.heap[b]? = w.heap[b]?) : w'.cell? ⟨b, o, none⟩ = w.cell? ⟨b, o, none⟩ :=
 World.cell?_of_block (a := ⟨b, o, none⟩) h
theorem Qb8 {w w' : World} {st st' : Blks} (hst : ∀ b, st b -> st' b) (hw : ∀ b, st b -> w'.heap[b]? = w.heap[b]?) :
  ∀ {S : Sh} {x : S.den} {cs : List Value}, Im w st S x cs -> Im w' st' S x cs
 | .int _, _, _, h => h
 | .bool, _, _, h => h
 | .str, _, _, h => h
 | .unit, _, _, h => h
 | .pair _ _, _, _, ⟨c1, c2, e, h1, h2⟩ => ⟨c1, c2, e, Qb8 hst hw h1, Qb8 hst hw h2⟩
 | .sl _ e, xs, _, ⟨A, cap, e1, h1, h2⟩ => ⟨A, cap, e1, h1, fun hne => by
   obtain ⟨b, o, hA, hb, hel⟩ := h2 hne
   refine ⟨b, o, hA, hst b hb, fun i x hx => ?_⟩
   obtain ⟨cc, h3, h4⟩ := hel i x hx
   exact ⟨cc, Qb8 hst hw h3, fun j v hv => by rw [Qc1 (hw b hb)]; exact h4 j v hv⟩⟩
theorem Qbn {w : World} {st : Blks} : ∀ {S : Sh} {x : S.den} {cs : List Value}, Im w st S x cs -> cs.length = S.size
 | .int _, _, _, h => by cases h; rfl
 | .bool, _, _, h => by cases h; rfl
 | .str, _, _, h => by cases h; rfl
 | .unit, _, _, h => by cases h; rfl
 | .pair _ _, _, _, ⟨c1, c2, e, h1, h2⟩ => by rw [e, List.length_append, Qbn h1, Qbn h2]; rfl
 | .sl _ _, _, _, ⟨A, cap, e1, _⟩ => by rw [e1]; rfl
theorem Qgt {w : World} {st : Blks} : ∀ {S : Sh} {x : S.den} {cs : List Value}, Im w st S x cs -> Ones cs
 | .int _, _, _, h => by cases h; intro v hv; simp at hv; subst hv; rfl
 | .bool, _, _, h => by cases h; intro v hv; simp at hv; subst hv; rfl
 | .str, _, _, h => by cases h; intro v hv; simp at hv; subst hv; rfl
 | .unit, _, _, h => by cases h; intro v hv; simp at hv
 | .pair _ _, _, _, ⟨c1, c2, e, h1, h2⟩ => by
  intro v hv; rw [e] at hv
  rcases List.mem_append.1 hv with h | h
  ·exact Qgt h1 v h
  ·exact Qgt h2 v h
 | .sl _ _, _, _, ⟨A, cap, e1, _⟩ => by rw [e1]; intro v hv; simp at hv; subst hv; rfl
theorem Qb9 {w : World} : ∀ {S : Sh} {x : S.den} {cs : List Value} {F : Blks}, Ow w S x cs F -> cs.length = S.size
 | .int _, _, _, _, h => by cases h; rfl
 | .bool, _, _, _, h => by cases h; rfl
 | .str, _, _, _, h => by cases h; rfl
 | .unit, _, _, _, h => by cases h; rfl
 | .pair _ _, _, _, _, ⟨c1, c2, F1, F2, e, _, _, _, h1, h2⟩ => by rw [e, List.length_append, Qb9 h1, Qb9 h2]; rfl
 | .sl _ _, _, _, _, h => by
  rcases h with ⟨_, A, e⟩ | ⟨b, cap, arr, F', e, _⟩ <;> rw [e] <;> rfl
theorem Qc2 {w : World} : ∀ {S : Sh} {x : S.den} {cs : List Value} {F : Blks}, Ow w S x cs F -> Ones cs
 | .int _, _, _, _, h => by cases h; intro v hv; simp at hv; subst hv; rfl
 | .bool, _, _, _, h => by cases h; intro v hv; simp at hv; subst hv; rfl
 | .str, _, _, _, h => by cases h; intro v hv; simp at hv; subst hv; rfl
 | .unit, _, _, _, h => by cases h; intro v hv; simp at hv
 | .pair _ _, _, _, _, ⟨c1, c2, F1, F2, e, _, _, _, h1, h2⟩ => by
  intro v hv; rw [e] at hv
  rcases List.mem_append.1 hv with h | h
  ·exact Qc2 h1 v h
  ·exact Qc2 h2 v h
 | .sl _ _, _, _, _, h => by
  rcases h with ⟨_, A, e⟩ | ⟨b, cap, arr, F', e, _⟩ <;> rw [e] <;> intro v hv <;> simp at hv <;> subst hv <;> rfl
theorem Qiq {α : Type} {R : α -> List Value -> Blks -> Prop} {sz : Nat} : ∀ {xs : List α} {cs : List Value} {F : Blks} {i : Nat} {x : α},
  OwL R sz xs cs F -> xs[i]? = some x -> ∃ F1, (∀ b, F1 b -> F b) /\ R x ((cs.drop (i * sz)).take sz) F1
 | x :: xs, cs, F, 0, y, ⟨F1, F2, _, h2, _, h4, _⟩, e => by
  simp at e; subst e; exact ⟨F1, h2, by simpa using h4⟩
 | x :: xs, cs, F, i + 1, y, ⟨F1, F2, _, _, h3, _, h5⟩, e => by
  obtain ⟨G, hG, hr⟩ := Qiq h5 (by simpa using e)
  refine ⟨G, fun b hb => h3 b (hG b hb), ?_⟩
  rw [List.drop_drop] at hr
  rwa [show (i + 1) * sz = sz + i * sz by rw [Nat.add_mul]; omega]
theorem Qj2 {cs cs' : List Value} {a n : Nat} (h : ∀ k, a <= k -> k < a + n -> cs'[k]? = cs[k]?) : (cs'.drop a).take n = (cs.drop a).take n := by
 apply List.ext_getElem?
 intro k
 simp only [List.getElem?_take, List.getElem?_drop]
 split
 ·exact h _ (by omega) (by omega)
 ·rfl
theorem Qk0 {α : Type} {R : α -> List Value -> Blks -> Prop} {sz : Nat} : ∀ {xs : List α} {cs : List Value} {F : Blks} {i : Nat} {x : α},
  OwL R sz xs cs F -> xs[i]? = some x -> ∃ F1 : Blks, (∀ b, F1 b -> F b) /\ R x ((cs.drop (i * sz)).take sz) F1 /\
   ∀ (R' : α -> List Value -> Blks -> Prop) (cs' : List Value) (G : Blks) (y : α),
    (∀ x' c H, (∀ b, H b -> F b) -> (∀ b, H b -> ¬ F1 b) -> R x' c H -> R' x' c H) ->
    (∀ k, (k < i * sz ∨ i * sz + sz <= k) -> cs'[k]? = cs[k]?) ->
    (∀ b, G b -> F b -> F1 b) -> R' y ((cs'.drop (i * sz)).take sz) G ->
    OwL R' sz (xs.set i y) cs' (fun b => (F b /\ ¬ F1 b) ∨ G b)
 | x :: xs, cs, F, 0, x', ⟨F1, F2, h1, h2, h3, h4, h5⟩, e => by
  simp at e; subst e
  refine ⟨F1, h2, by simpa using h4, fun R' cs' G y hR hc hG hy => ?_⟩
  refine ⟨G, F2, fun b hg h => h1 b (hG b hg (h3 b h)) h, fun b hg => .inr hg, fun b h => .inl ⟨h3 b h, fun h' => h1 b h' h⟩, by simpa using hy, ?_⟩
  have e : cs'.drop sz = cs.drop sz := by
   apply List.ext_getElem?
   intro k
   simp only [List.getElem?_drop]
   exact hc _ (.inr (by omega))
  rw [e]
  exact Qd9 (fun x c H hH hr => hR x c H (fun b hb => h3 b (hH b hb)) (fun b hb h' => h1 b h' (hH b hb)) hr) h5
 | x :: xs, cs, F, i + 1, x', ⟨F1, F2, h1, h2, h3, h4, h5⟩, e => by
  obtain ⟨F', hF', hr, hset⟩ := Qk0 h5 (by simpa using e)
  refine ⟨F', fun b hb => h3 b (hF' b hb), ?_, fun R' cs' G y hR hc hG hy => ?_⟩
  ·rw [List.drop_drop] at hr
   rwa [show (i + 1) * sz = sz + i * sz by rw [Nat.add_mul]; omega]
  ·have ht := hset R' (cs'.drop sz) G y
    (fun x' c H hH hn hr => hR x' c H (fun b hb => h3 b (hH b hb)) hn hr)
    (fun k hk => by
     simp only [List.getElem?_drop]
     exact hc _ (by rw [Nat.add_mul]; omega))
    (fun b hg hb => hG b hg (h3 b hb))
    (by rw [List.drop_drop]; rwa [show (i + 1) * sz = sz + i * sz by rw [Nat.add_mul]; omega] at hy)
   have e1 : cs'.take sz = cs.take sz := by
    have := Qj2 (cs := cs) (cs' := cs') (a := 0) (n := sz) (fun k _ hk => hc k (.inl (by rw [Nat.add_mul]; omega)))
    simpa using this
   refine ⟨F1, fun b => (F2 b /\ ¬ F' b) ∨ G b, ?_, fun b hb => .inl ⟨h2 b hb, fun h' => h1 b hb (hF' b h')⟩, ?_, ?_, ht⟩
   ·rintro b hb (⟨h', _⟩ | hg)
    ·exact h1 b hb h'
    ·exact h1 b hb (hF' b (hG b hg (h2 b hb)))
   ·rintro b (⟨h', hn⟩ | hg)
    ·exact .inl ⟨h3 b h', hn⟩
    ·exact .inr hg
   ·rw [e1]
    exact hR x _ F1 h2 (fun b hb h' => h1 b hb (hF' b h')) h4
theorem Qbk : ∀ {S : Sh} {p : List Bool} {s : Sh}, S.sub p = some s -> S.off p + s.size <= S.size
 | S, [], s, h => by
  have : S = s := by cases S <;> simpa [Sh.sub] using h
  subst this
  have : S.off [] = 0 := by cases S <;> rfl
  omega
 | .pair a b, false :: p, s, h => by
  have := Qbk (S := a) (p := p) (by simpa [Sh.sub] using h)
  simp only [Sh.off, Sh.size]; omega
 | .pair a b, true :: p, s, h => by
  have := Qbk (S := b) (p := p) (by simpa [Sh.sub] using h)
  simp only [Sh.off, Sh.size]; omega
 | .int _, _ :: _, _, h => by simp [Sh.sub] at h
 | .bool, _ :: _, _, h => by simp [Sh.sub] at h
 | .str, _ :: _, _, h => by simp [Sh.sub] at h
 | .sl _ _, _ :: _, _, h => by simp [Sh.sub] at h
 | .unit, _ :: _, _, h => by simp [Sh.sub] at h
theorem Qca (S : Sh) (x : S.den) : getT S x [] = some ⟨S, x⟩ := by cases S <;> rfl
theorem Qba (S : Sh) : S.off [] = 0 := by cases S <;> rfl
theorem Qbc (S : Sh) : S.sub [] = some S := by cases S <;> rfl
theorem Qcb : ∀ {S : Sh} {x : S.den} {p : List Bool} {s : Sh} {y : s.den}, getT S x p = some ⟨s, y⟩ -> S.sub p = some s
 | S, x, [], s, y, h => by rw [Qca] at h; cases h; exact Qbc _
 | .pair a b, x, false :: p, s, y, h => by simp only [getT] at h; simpa [Sh.sub] using Qcb h
 | .pair a b, x, true :: p, s, y, h => by simp only [getT] at h; simpa [Sh.sub] using Qcb h
 | .int _, _, _ :: _, _, _, h => by simp [getT] at h
 | .bool, _, _ :: _, _, _, h => by simp [getT] at h
 | .str, _, _ :: _, _, _, h => by simp [getT] at h
 | .sl _ _, _, _ :: _, _, _, h => by simp [getT] at h
 | .unit, _, _ :: _, _, _, h => by simp [getT] at h
theorem Qen : ∀ {S : Sh} {p : List Bool} {s : Sh}, S.sub p = some s -> ∀ x : S.den, ∃ y, getT S x p = some ⟨s, y⟩
 | S, [], s, h, x => by rw [Qbc] at h; cases h; exact ⟨x, Qca _ _⟩
 | .pair a b, false :: p, s, h, x => Qen (S := a) (by simpa [Sh.sub] using h) x.1
 | .pair a b, true :: p, s, h, x => Qen (S := b) (by simpa [Sh.sub] using h) x.2
 | .int _, _ :: _, _, h, _ => by simp [Sh.sub] at h
 | .bool, _ :: _, _, h, _ => by simp [Sh.sub] at h
 | .str, _ :: _, _, h, _ => by simp [Sh.sub] at h
 | .sl _ _, _ :: _, _, h, _ => by simp [Sh.sub] at h
 | .unit, _ :: _, _, h, _ => by simp [Sh.sub] at h
theorem drop_left {a b : List Value} {n m : Nat} (h : n + m <= a.length) : ((a ++ b).drop n).take m = (a.drop n).take m := by
 rw [List.drop_append_of_le_length (by omega), List.take_append_of_le_length (by simp; omega)]
theorem Qd1 {a b : List Value} {n m : Nat} : ((a ++ b).drop (a.length + n)).take m = (b.drop n).take m := by
 rw [List.drop_append, List.drop_of_length_le (by omega)]; simp
theorem Qeo {w : World} {st : Blks} : ∀ {S : Sh} {x : S.den} {cs : List Value} {p : List Bool} {s : Sh} {y : s.den},
  Im w st S x cs -> getT S x p = some ⟨s, y⟩ -> Im w st s y ((cs.drop (S.off p)).take s.size)
 | S, x, cs, [], s, y, h, g => by
  rw [Qca] at g; cases g
  rw [Qba, List.drop_zero, List.take_of_length_le (by rw [Qbn h]; exact Nat.le_refl _)]; exact h
 | .pair a b, x, cs, false :: p, s, y, ⟨c1, c2, e, h1, h2⟩, g => by
  have hs := Qbk (Qcb (S := a) g)
  have := Qeo h1 g
  rw [e, Sh.off, drop_left (by rw [Qbn h1]; exact hs)]; exact this
 | .pair a b, x, cs, true :: p, s, y, ⟨c1, c2, e, h1, h2⟩, g => by
  have := Qeo h2 g
  rw [e, Sh.off, <- Qbn h1, Qd1]; exact this
 | .int _, _, _, _ :: _, _, _, _, h => by simp [getT] at h
 | .bool, _, _, _ :: _, _, _, _, h => by simp [getT] at h
 | .str, _, _, _ :: _, _, _, _, h => by simp [getT] at h
 | .sl _ _, _, _, _ :: _, _, _, _, h => by simp [getT] at h
 | .unit, _, _, _ :: _, _, _, _, h => by simp [getT] at h
theorem Qbl {a b : Sh} {x : a.den} {y : b.den} (h : cst a b x = some y) : ∃ e : a = b, e ▸ x = y := by
 unfold cst at h
 split at h
 ·rename_i e; exact ⟨e, Option.some.inj h⟩
 ·cases h
theorem Qgw {a : Sh} (x : a.den) : cst a a x = some x := by simp [cst]
theorem Quv {a b : Sh} {x : List a.den} {y : List b.den} (h : cstL a b x = some y) : ∃ e : a = b, e ▸ x = y := by
 unfold cstL at h
 split at h
 ·rename_i e; exact ⟨e, Option.some.inj h⟩
 ·cases h
theorem Qsj (S : Sh) (x : S.den) (s : Sh) (y : s.den) : setT S x [] s y = cst s S y := by cases S <;> rfl
theorem Qgu {w : World} : ∀ {S : Sh} {x : S.den} {cs : List Value} {F : Blks} {p : List Bool} {s : Sh} {y : s.den},
  Ow w S x cs F -> getT S x p = some ⟨s, y⟩ -> ∃ F1 : Blks, (∀ b, F1 b -> F b) /\ Ow w s y ((cs.drop (S.off p)).take s.size) F1 /\
   ∀ (w' : World) (cs' : List Value) (G : Blks) (y' : s.den) (z : S.den), setT S x p s y' = some z -> cs'.length = cs.length ->
    (∀ k, (k < S.off p ∨ S.off p + s.size <= k) -> cs'[k]? = cs[k]?) ->
    (∀ b, F b -> ¬ F1 b -> w'.heap[b]? = w.heap[b]?) -> (∀ b, G b -> F b -> F1 b) -> Ow w' s y' ((cs'.drop (S.off p)).take s.size) G ->
    Ow w' S z cs' (fun b => (F b /\ ¬ F1 b) ∨ G b)
 | S, x, cs, F, [], s, y, h, g => by
  rw [Qca] at g; cases g
  have hl := Qb9 h
  refine ⟨F, fun b hb => hb, ?_, ?_⟩
  ·rw [Qba, List.drop_zero, List.take_of_length_le (by omega)]; exact h
  ·intro w' cs' G y' z hz hl' hc hw hG hy
   rw [Qsj, Qgw] at hz; cases hz
   rw [Qba, List.drop_zero, List.take_of_length_le (by omega)] at hy
   exact Ow_up (fun b hb => .inr hb) hy
 | .pair a b, x, cs, F, false :: p, s, y, ⟨c1, c2, F1, F2, e, d, h1, h2, h3, h4⟩, g => by
  have hs := Qbk (Qcb (S := a) g)
  have l1 := Qb9 h3
  obtain ⟨G1, hG1, hr, hset⟩ := Qgu h3 g
  refine ⟨G1, fun b hb => h1 b (hG1 b hb), ?_, ?_⟩
  ·rw [e, Sh.off, drop_left (by rw [l1]; exact hs)]; exact hr
  ·intro w' cs' G y' z hz hl' hc hw hG hy
   simp only [setT] at hz
   cases hz1 : setT a x.1 p s y' with
   | none => rw [hz1] at hz; cases hz
   | some z1 =>
    rw [hz1] at hz; cases hz
    subst e
    simp only [Sh.off] at hc hy
    have ec : cs' = cs'.take c1.length ++ c2 := by
     conv => lhs; rw [<- List.take_append_drop c1.length cs']
     congr 1
     apply List.ext_getElem?
     intro k
     rw [List.getElem?_drop, hc (c1.length + k) (.inr (by omega)), List.getElem?_append_right (by omega)]
     congr 1; omega
    have lt : (cs'.take c1.length).length = c1.length := by rw [List.length_take, hl', List.length_append]; omega
    refine ⟨cs'.take c1.length, c2, fun b => (F1 b /\ ¬ G1 b) ∨ G b, F2, ec, ?_, ?_, ?_, ?_, ?_⟩
    ·rintro b (⟨hb, _⟩ | hb) hb2
     ·exact d b hb hb2
     ·exact d b (hG1 b (hG b hb (h2 b hb2))) hb2
    ·rintro b (⟨hb, hn⟩ | hb)
     ·exact .inl ⟨h1 b hb, hn⟩
     ·exact .inr hb
    ·exact fun b hb => .inl ⟨h2 b hb, fun hg => d b (hG1 b hg) hb⟩
    ·refine hset w' _ G y' z1 hz1 lt ?_ (fun b hb hn => hw b (h1 b hb) hn) (fun b hg hb => hG b hg (h1 b hb)) ?_
     ·intro k hk
      by_cases hk1 : k < c1.length
      ·rw [List.getElem?_take, if_pos hk1, hc k (by omega), List.getElem?_append_left hk1]
      ·rw [List.getElem?_eq_none (by omega), List.getElem?_eq_none (by omega)]
     ·rw [ec, drop_left (by omega)] at hy; exact hy
    ·exact Qbw (fun b hb => hw b (h2 b hb) (fun hg => d b (hG1 b hg) hb)) h4
 | .pair a b, x, cs, F, true :: p, s, y, ⟨c1, c2, F1, F2, e, d, h1, h2, h3, h4⟩, g => by
  have hs := Qbk (Qcb (S := b) g)
  have l1 := Qb9 h3
  have l2 := Qb9 h4
  obtain ⟨G1, hG1, hr, hset⟩ := Qgu h4 g
  refine ⟨G1, fun b hb => h2 b (hG1 b hb), ?_, ?_⟩
  ·rw [e, Sh.off, <- l1, Qd1]; exact hr
  ·intro w' cs' G y' z hz hl' hc hw hG hy
   simp only [setT] at hz
   cases hz1 : setT b x.2 p s y' with
   | none => rw [hz1] at hz; cases hz
   | some z1 =>
    rw [hz1] at hz; cases hz
    subst e
    simp only [Sh.off, <- l1] at hc hy
    have ec : cs' = c1 ++ cs'.drop c1.length := by
     conv => lhs; rw [<- List.take_append_drop c1.length cs']
     congr 1
     apply List.ext_getElem?
     intro k
     rw [List.getElem?_take]
     split
     ·rename_i hk; rw [hc k (.inl (by omega)), List.getElem?_append_left hk]
     ·rw [List.getElem?_eq_none (by omega)]
    have lt : (cs'.drop c1.length).length = c2.length := by rw [List.length_drop, hl', List.length_append]; omega
    refine ⟨c1, cs'.drop c1.length, F1, fun b => (F2 b /\ ¬ G1 b) ∨ G b, ec, ?_, ?_, ?_, ?_, ?_⟩
    ·rintro b hb1 (⟨hb, _⟩ | hb)
     ·exact d b hb1 hb
     ·exact d b hb1 (hG1 b (hG b hb (h1 b hb1)))
    ·exact fun b hb => .inl ⟨h1 b hb, fun hg => d b hb (hG1 b hg)⟩
    ·rintro b (⟨hb, hn⟩ | hb)
     ·exact .inl ⟨h2 b hb, hn⟩
     ·exact .inr hb
    ·exact Qbw (fun b hb => hw b (h1 b hb) (fun hg => d b hb (hG1 b hg))) h3
    ·refine hset w' _ G y' z1 hz1 lt ?_ (fun b hb hn => hw b (h2 b hb) hn) (fun b hg hb => hG b hg (h2 b hb)) ?_
     ·intro k hk
      rw [List.getElem?_drop, hc (c1.length + k) (by omega), List.getElem?_append_right (by omega)]
      congr 1; omega
     ·rw [ec, Qd1] at hy; exact hy
 | .int _, _, _, _, _ :: _, _, _, _, h => by simp [getT] at h
 | .bool, _, _, _, _ :: _, _, _, _, h => by simp [getT] at h
 | .str, _, _, _, _ :: _, _, _, _, h => by simp [getT] at h
 | .sl _ _, _, _, _, _ :: _, _, _, _, h => by simp [getT] at h
 | .unit, _, _, _, _ :: _, _, _, _, h => by simp [getT] at h
theorem Ow_Im {w : World} {st : Blks} : ∀ {S : Sh} {x : S.den} {cs : List Value} {F : Blks}, (∀ b, F b -> st b) -> Ow w S x cs F -> Im w st S x cs
 | .int _, _, _, _, _, h => h
 | .bool, _, _, _, _, h => h
 | .str, _, _, _, _, h => h
 | .unit, _, _, _, _, h => h
 | .pair _ _, _, _, _, hF, ⟨c1, c2, F1, F2, e, d, h1, h2, h3, h4⟩ =>
  ⟨c1, c2, e, Ow_Im (fun b hb => hF b (h1 b hb)) h3, Ow_Im (fun b hb => hF b (h2 b hb)) h4⟩
 | .sl T e, xs, _, F, hF, h => by
  rcases h with ⟨rfl, A, rfl⟩ | ⟨b, cap, arr, F', rfl, h1, h2, h3, h4, h5, h6, h7, h8⟩
  ·exact ⟨A, 0, rfl, Nat.le_refl _, fun h => absurd rfl h⟩
  ·refine ⟨_, cap, rfl, h5, fun _ => ⟨b, 0, rfl, hF b h1, fun i x hx => ?_⟩⟩
   obtain ⟨F1, hF1, hr⟩ := Qiq h8 hx
   refine ⟨_, Ow_Im (fun c hc => hF c (h3 c (hF1 c hc))) hr, fun j v hv => ?_⟩
   rw [List.getElem?_take] at hv
   split at hv
   ·rw [List.getElem?_drop] at hv
    simp only [World.cell?, h4, Option.isSome_none, Bool.false_eq_true, if_false]
    rw [<- Array.getElem?_toList, Nat.zero_add]; exact hv
   ·cases hv
theorem Im_Ow {w w' : World} {st : Blks} : ∀ {S : Sh} {x : S.den} {cs : List Value} {F : Blks}, S.flat = true -> Im w st S x cs -> Ow w' S x cs F
 | .int _, _, _, _, _, h => h
 | .bool, _, _, _, _, h => h
 | .str, _, _, _, _, h => h
 | .unit, _, _, _, _, h => h
 | .pair a b, _, _, F, hf, ⟨c1, c2, e, h1, h2⟩ => by
  simp only [Sh.flat, Bool.and_eq_true] at hf
  exact ⟨c1, c2, fun _ => False, fun _ => False, e, fun _ h _ => h, fun _ h => h.elim, fun _ h => h.elim, Im_Ow hf.1 h1, Im_Ow hf.2 h2⟩
 | .sl _ _, _, _, _, hf, _ => by simp [Sh.flat] at hf
theorem Qor {w w' : World} : ∀ {S : Sh} {x : S.den} {cs : List Value} {F F' : Blks}, S.flat = true -> Ow w S x cs F -> Ow w' S x cs F'
 | .int _, _, _, _, _, _, h => h
 | .bool, _, _, _, _, _, h => h
 | .str, _, _, _, _, _, h => h
 | .unit, _, _, _, _, _, h => h
 | .pair a b, _, _, _, _, hf, ⟨c1, c2, F1, F2, e, d, h1, h2, h3, h4⟩ => by
  simp only [Sh.flat, Bool.and_eq_true] at hf
  exact ⟨c1, c2, fun _ => False, fun _ => False, e, fun _ h _ => h, fun _ h => h.elim, fun _ h => h.elim, Qor hf.1 h3, Qor hf.2 h4⟩
 | .sl _ _, _, _, _, _, hf, _ => by simp [Sh.flat] at hf
end Go.Vm

set_option linter.unusedVariables false
set_option linter.unusedSimpArgs false
namespace Go.Vm
def IsArr (O : Ob) (T : TypeId) (e : Sh) (xs : List e.den) : Prop := O = .arr T e xs ∨ O = .iarr T e xs
theorem IsArr.mapA {O : Ob} {T : TypeId} {e : Sh} {xs : List e.den} (h : IsArr O T e xs) (f : AV -> AV) : IsArr (O.mapA f) T e xs := by
 rcases h with rfl | rfl
 ·exact .inl rfl
 ·exact .inr rfl
theorem IsArr.live {O : Ob} {T : TypeId} {e : Sh} {xs : List e.den} (h : IsArr O T e xs) : O ≠ .none := by
 rcases h with rfl | rfl <;> simp
def PtrAt (O : Ob) (r : Value) : Option Int -> List Bool -> Nat -> Nat -> Prop
 | none, p, b, o => ∃ S s, ((∃ v, O = .box S v) ∨ (∃ x, O = .cbox S x)) /\ r = .pointer (some ⟨b, 0, none⟩) /\ S.sub p = some s /\ o = S.off p
 | some i, p, b, o => ∃ T e xs s l c, IsArr O T e xs /\ r = .slice (some ⟨b, 0, none⟩) l c /\ 0 <= i /\ i.toNat < xs.length /\ e.sub p = some s /\
   o = i.toNat * e.size + e.off p
def RC (w : World) (st : Blks) (ρ : Nat -> Value) (O : Nat -> Ob) : AV -> List Value -> Prop
 | .unk, cs => ∃ v, cs = [v] /\ v.oneCell' = true
 | .val S x, cs => Im w st S x cs
 | .pair a b, cs => ∃ c1 c2, cs = c1 ++ c2 /\ RC w st ρ O a c1 /\ RC w st ρ O b c2
 | .ptr id ix p, cs => ∃ b o, PtrAt (O id) (ρ id) ix p b o /\ cs = [.pointer (some ⟨b, o, none⟩)]
 | .sref id none p, cs => p = [] /\ (∃ T e xs, IsArr (O id) T e xs) /\ cs = [ρ id] /\ (ρ id).oneCell' = true
 | .sref id (some i) p, cs => ∃ b o v, PtrAt (O id) (ρ id) (some i) p b o /\ (∀ T e xs, IsArr (O id) T e xs -> ∃ T' e', e.sub p = some (.sl T' e')) /\
   w.cell? ⟨b, o, none⟩ = some v /\ cs = [v] /\ v.oneCell' = true
 | .nilv _ _, cs => ∃ A, cs = [.slice A 0 0]
 | .iptr S x, cs => ∃ b o cc, cs = [.pointer (some ⟨b, o, none⟩)] /\ st b /\ Im w st S x cc /\ ∀ j v, cc[j]? = some v -> w.cell? ⟨b, o + j, none⟩ = some v
 | .nq e, cs => ∃ b : Bool, cs = [.bool b] /\ (b = true -> e = true)
 | .fn f caps, cs => cs = [.func (.func f) #[] (caps.map ρ).toArray]
 | .tnil, _ => False
 | .tcons _ _, _ => False
def AV.agg : AV -> Bool
 | .val (.pair _ _) _ => true
 | .pair _ _ => true
 | _ => false
def RV1 (w : World) (st : Blks) (ρ : Nat -> Value) (O : Nat -> Ob) (a : AV) (v : Value) : Prop :=
 a = .unk ∨ (a.agg = true /\ ∃ cs, v = .agg cs /\ RC w st ρ O a cs.toList) ∨ (a.agg = false /\ RC w st ρ O a [v])
def RT (w : World) (st : Blks) (ρ : Nat -> Value) (O : Nat -> Ob) : AV -> List Value -> Prop
 | .tnil, vs => vs = []
 | .tcons a b, vs => ∃ v r, vs = v :: r /\ RV1 w st ρ O a v /\ RT w st ρ O b r
 | _, _ => False
def RV (w : World) (st : Blks) (ρ : Nat -> Value) (O : Nat -> Ob) (a : AV) (v : Value) : Prop :=
 (a.isTup = true /\ ∃ vs, v = .tuple vs /\ RT w st ρ O a vs.toList) ∨ (a.isTup = false /\ RV1 w st ρ O a v)
def Fit (O : Nat -> Ob) : Sh -> AV -> Prop
 | S, .val s _ => s = S
 | .pair a b, .pair u v => Fit O a u /\ Fit O b v
 | .sl T e, .nilv T' e' => T' = T /\ e' = e
 | .sl T e, .sref id ix p => (∃ xs, ix = none /\ p = [] /\ IsArr (O id) T e xs)
 | .sl _ _, .unk => True
 | _, _ => False
def ObR (w : World) (st : Blks) (ρ : Nat -> Value) (φ : Nat -> Blks) (O : Nat -> Ob) (id : Nat) : Ob -> Prop
 | .none => ∀ b, ¬ φ id b
 | .box S v => ∃ b arr T, ρ id = .pointer (some ⟨b, 0, none⟩) /\ φ id b /\ w.heap[b]? = some (.cells arr T (0, 0)) /\ Fit O S v /\ RC w st ρ O v arr.toList
 | .cbox S x => ∃ b arr T fz, ρ id = .pointer (some ⟨b, 0, none⟩) /\ st b /\ w.heap[b]? = some (.cells arr T fz) /\ Im w st S x arr.toList /\ ∀ b, ¬ φ id b
 | .arr T e xs => Ow w (.sl T e) xs [ρ id] (φ id)
 | .iarr T e xs => (xs = [] /\ ∃ A, ρ id = .slice A 0 0) ∨ ∃ b cap arr, ρ id = .slice (some ⟨b, 0, none⟩) xs.length cap /\ φ id b /\ w.heap[b]? = some (.cells arr T (0, 0)) /\
   xs.length <= cap /\ arr.size = cap * e.size /\ ∀ (i : Nat) (x : e.den), xs[i]? = some x -> Im w st e x ((arr.toList.drop (i * e.size)).take e.size)
theorem IsArr.of_arr {O : Ob} {T T' : TypeId} {e e' : Sh} {xs : List e.den} {ys : List e'.den} (h : IsArr O T' e' ys) (ho : O = .arr T e xs) : Ob.arr T e xs = Ob.arr T' e' ys := by
 rcases h with h | h
 ·rw [<- ho, h]
 ·rw [ho] at h; cases h
theorem IsArr.of_iarr {O : Ob} {T T' : TypeId} {e e' : Sh} {xs : List e.den} {ys : List e'.den} (h : IsArr O T' e' ys) (ho : O = .iarr T e xs) : Ob.iarr T e xs = Ob.iarr T' e' ys := by
 rcases h with h | h
 ·rw [ho] at h; cases h
 ·rw [<- ho, h]
theorem IsArr.not_box {S : Sh} {v : AV} {T : TypeId} {e : Sh} {xs : List e.den} (h : IsArr (.box S v) T e xs) : False := by rcases h with h | h <;> cases h
theorem IsArr.not_cbox {S : Sh} {v : S.den} {T : TypeId} {e : Sh} {xs : List e.den} (h : IsArr (.cbox S v) T e xs) : False := by rcases h with h | h <;> cases h
theorem Qgd {w w' : World} {st st' : Blks} {ρ ρ' : Nat -> Value} {φ φ' : Nat -> Blks} {O O' : Nat -> Ob} {id : Nat} {T : TypeId} {e : Sh} {xs : List e.den} (hst : ∀ b, st b -> st' b) (hw : ∀ b, st b -> w'.heap[b]? = w.heap[b]?) (h1 : ρ' id = ρ id)
  (h2 : ∀ b, φ id b -> φ' id b /\ w'.heap[b]? = w.heap[b]?) (h : ObR w st ρ φ O id (.iarr T e xs)) : ObR w' st' ρ' φ' O' id (.iarr T e xs) := by
 rcases h with ⟨rfl, A, h⟩ | ⟨b, cap, arr, h3, h4, h5, h6, h7, h8⟩
 ·exact .inl ⟨rfl, A, h1.trans h⟩
 ·exact .inr ⟨b, cap, arr, h1.trans h3, (h2 b h4).1, (h2 b h4).2.trans h5, h6, h7, fun i x hx => Qb8 hst hw (h8 i x hx)⟩
structure Sim (w : World) (st : Blks) (ρ : Nat -> Value) (φ : Nat -> Blks) (n : Nat) (a : Act) (s : St) : Prop where
 nt : a.tmps.size = n
 df : a.defers = []
 hi : ∀ t, n <= t -> s.env t = .unk
 env : ∀ t, RV w st ρ s.hp (s.env t) (a.tmps.getD t undef)
 ob : ∀ id, ObR w st ρ φ s.hp id (s.hp id)
 lt : ∀ id b, φ id b -> b < w.heap.size /\ ¬ st b
 dj : ∀ id id' b, φ id b -> φ id' b -> id = id'
 wf : ∀ t id, id ∈ (s.env t).ids -> s.hp id ≠ .none
 wfh : ∀ k id, id ∈ (s.hp k).ids -> s.hp id ≠ .none
 stlt : ∀ b, st b -> b < w.heap.size
structure Fr (w w' : World) (st st' : Blks) (ρ ρ' : Nat -> Value) (φ φ' : Nat -> Blks) (s s' : St) : Prop where
 os : w'.os = w.os
 tape : w'.tape = w.tape
 output : w'.output = w.output
 size : w.heap.size <= w'.heap.size
 keep : ∀ b, b < w.heap.size -> (∀ id, ¬ φ id b) -> w'.heap[b]? = w.heap[b]?
 st1 : ∀ b, st b -> st' b
 st2 : ∀ b, st' b -> st b ∨ (∃ id, φ id b) ∨ w.heap.size <= b
 ow : ∀ id b, φ' id b -> (∃ id, φ id b) ∨ w.heap.size <= b
 pid : ∀ id, 5000 <= id % 10000 -> s'.hp id ≠ .none -> s.hp id ≠ .none /\ ρ' id = ρ id
theorem Fr.refl (w : World) (st : Blks) (ρ : Nat -> Value) (φ : Nat -> Blks) (s : St) : Fr w w st st ρ ρ φ φ s s :=
 ⟨rfl, rfl, rfl, Nat.le_refl _, fun _ _ _ => rfl, fun _ h => h, fun _ h => .inl h, fun id b h => .inl ⟨id, h⟩, fun _ _ h => ⟨h, rfl⟩⟩
theorem Fr.trans {w w1 w2 : World} {st st1 st2 : Blks} {ρ ρ1 ρ2 : Nat -> Value} {φ φ1 φ2 : Nat -> Blks} {s s1 s2 : St}
  (h : Fr w w1 st st1 ρ ρ1 φ φ1 s s1) (k : Fr w1 w2 st1 st2 ρ1 ρ2 φ1 φ2 s1 s2) : Fr w w2 st st2 ρ ρ2 φ φ2 s s2 where
 os := k.os.trans h.os
 tape := k.tape.trans h.tape
 output := k.output.trans h.output
 size := Nat.le_trans h.size k.size
 keep b hb hn := by
  rw [k.keep b (Nat.lt_of_lt_of_le hb h.size) (fun id hid => by
   rcases h.ow id b hid with ⟨i, hi⟩ | hi
   ·exact hn i hi
   ·omega), h.keep b hb hn]
 st1 b hb := k.st1 b (h.st1 b hb)
 st2 b hb := by
  rcases k.st2 b hb with h1 | ⟨id, h1⟩ | h1
  ·exact h.st2 b h1
  ·rcases h.ow id b h1 with h2 | h2
   ·exact .inr (.inl h2)
   ·exact .inr (.inr h2)
  ·exact .inr (.inr (Nat.le_trans h.size h1))
 ow id b hb := by
  rcases k.ow id b hb with ⟨i, h1⟩ | h1
  ·exact h.ow i b h1
  ·exact .inr (Nat.le_trans h.size h1)
 pid id hp hn := by
  obtain ⟨h1, h2⟩ := k.pid id hp hn
  obtain ⟨h3, h4⟩ := h.pid id hp h1
  exact ⟨h3, h2.trans h4⟩
def Compat (w w' : World) (O O' : Ob) (r r' : Value) (nested : Bool) : Prop :=
 r' = r /\
 (match O, O' with
  | .box S _, .box S' _ => S' = S
  | .cbox S _, .cbox S' _ => S' = S
  | .arr T e xs, .arr T' e' xs' => T' = T /\ e' = e /\ xs.length <= xs'.length
  | .arr T e xs, .iarr T' e' xs' => T' = T /\ e' = e /\ xs.length <= xs'.length
  | .iarr T e xs, .iarr T' e' xs' => T' = T /\ e' = e /\ xs.length <= xs'.length
  | _, _ => False) /\
 (nested = true -> ∀ (i : Int) p b o, PtrAt O r (some i) p b o -> (∀ T e xs, IsArr O T e xs -> ∃ T' e', e.sub p = some (.sl T' e')) ->
  w'.cell? ⟨b, o, none⟩ = w.cell? ⟨b, o, none⟩)
theorem Compat.arr {w w' : World} {O O' : Ob} {r r' : Value} {n : Bool} (h : Compat w w' O O' r r' n) {T : TypeId} {e : Sh} {xs : List e.den} (hO : IsArr O T e xs) : ∃ xs', IsArr O' T e xs' /\ xs.length <= xs'.length := by
 obtain ⟨_, h2, _⟩ := h
 rcases hO with rfl | rfl <;> cases O' <;> simp only at h2
 ·obtain ⟨rfl, rfl, hl⟩ := h2; exact ⟨_, .inl rfl, hl⟩
 ·obtain ⟨rfl, rfl, hl⟩ := h2; exact ⟨_, .inr rfl, hl⟩
 ·obtain ⟨rfl, rfl, hl⟩ := h2; exact ⟨_, .inr rfl, hl⟩
theorem Compat.arr_rev {w w' : World} {O O' : Ob} {r r' : Value} {n : Bool} (h : Compat w w' O O' r r' n) {T : TypeId} {e : Sh} {xs : List e.den} (hO : IsArr O' T e xs) : ∃ xs', IsArr O T e xs' := by
 obtain ⟨_, h2, _⟩ := h
 rcases hO with rfl | rfl <;> cases O <;> simp only at h2
 ·obtain ⟨rfl, rfl, hl⟩ := h2; exact ⟨_, .inl rfl⟩
 ·obtain ⟨rfl, rfl, hl⟩ := h2; exact ⟨_, .inl rfl⟩
 ·obtain ⟨rfl, rfl, hl⟩ := h2; exact ⟨_, .inr rfl⟩
theorem Compat.ptr {w w' : World} {O O' : Ob} {r r' : Value} {n : Bool} (h : Compat w w' O O' r r' n) {ix : Option Int} {p : List Bool} {b o : Nat}
  (hp : PtrAt O r ix p b o) : PtrAt O' r' ix p b o := by
 have hc := h
 obtain ⟨rfl, h2, _⟩ := h
 cases ix with
 | none =>
  obtain ⟨S, s, hO, hr, hs, ho⟩ := hp
  rcases hO with ⟨v, rfl⟩ | ⟨x, rfl⟩
  ·cases O' <;> simp only at h2
   subst h2
   exact ⟨_, s, .inl ⟨_, rfl⟩, hr, hs, ho⟩
  ·cases O' <;> simp only at h2
   subst h2
   exact ⟨_, s, .inr ⟨_, rfl⟩, hr, hs, ho⟩
 | some i =>
  obtain ⟨T, e, xs, s, l, c, hO, hr, h0, hi, hs, ho⟩ := hp
  obtain ⟨xs', hO', hl⟩ := hc.arr hO
  exact ⟨_, _, _, s, l, c, hO', hr, h0, Nat.lt_of_lt_of_le hi hl, hs, ho⟩
def AV.nests (id : Nat) : AV -> Bool
 | .pair a b => a.nests id || b.nests id
 | .sref j (some _) _ => Nat.beq j id
 | .tcons a b => a.nests id || b.nests id
 | _ => false
theorem AV.agg_of_ids {a : AV} : True := trivial
theorem Qb6 {w w' : World} {st st' : Blks} {ρ ρ' : Nat -> Value} {O O' : Nat -> Ob} (hst : ∀ b, st b -> st' b) (hw : ∀ b, st b -> w'.heap[b]? = w.heap[b]?) :
  ∀ {v : AV} {cs : List Value}, (∀ id ∈ v.ids, Compat w w' (O id) (O' id) (ρ id) (ρ' id) (v.nests id)) -> RC w st ρ O v cs -> RC w' st' ρ' O' v cs
 | .unk, cs, _, h => h
 | .val S x, cs, _, h => Qb8 hst hw h
 | .pair a b, cs, hc, ⟨c1, c2, e, h1, h2⟩ => by
  refine ⟨c1, c2, e, Qb6 hst hw (fun id hid => ?_) h1, Qb6 hst hw (fun id hid => ?_) h2⟩
  ·obtain ⟨h1, h2, h3⟩ := hc id (by simp [AV.ids, hid])
   exact ⟨h1, h2, fun hn => h3 (by simp [AV.nests, hn])⟩
  ·obtain ⟨h1, h2, h3⟩ := hc id (by simp [AV.ids, hid])
   exact ⟨h1, h2, fun hn => h3 (by simp [AV.nests, hn])⟩
 | .ptr id ix p, cs, hc, ⟨b, o, h1, h2⟩ => ⟨b, o, (hc id (by simp [AV.ids])).ptr h1, h2⟩
 | .sref id none p, cs, hc, ⟨h1, ⟨T, e, xs, h2⟩, h3, h6⟩ => by
  have hc' := hc id (by simp [AV.ids])
  obtain ⟨xs', h7, _⟩ := Compat.arr hc' h2
  obtain ⟨h4, h5, _⟩ := hc'
  exact ⟨h1, ⟨_, _, _, h7⟩, by rw [h4]; exact h3, by rw [h4]; exact h6⟩
 | .sref id (some i) p, cs, hc, ⟨b, o, v, h1, h2, h3, h4⟩ => by
  have hc' := hc id (by simp [AV.ids])
  refine ⟨b, o, v, hc'.ptr h1, ?_, ?_, h4⟩
  ·intro T e xs hO
   obtain ⟨ys, hO0⟩ := Compat.arr_rev hc' hO
   exact h2 _ _ _ hO0
  ·rw [hc'.2.2 (by simp [AV.nests]) i p b o h1 h2]; exact h3
 | .nilv _ _, cs, _, h => h
 | .iptr S x, cs, _, ⟨b, o, cc, h1, h2, h3, h4⟩ => ⟨b, o, cc, h1, hst b h2, Qb8 hst hw h3, fun j v hv => by rw [Qc1 (hw b h2)]; exact h4 j v hv⟩
 | .nq e, cs, _, h => h
 | .fn f caps, cs, hc, h => by
  have : caps.map ρ' = caps.map ρ := List.map_congr_left fun id hid => (hc id (by simpa [AV.ids] using hid)).1
  show cs = _
  rw [this]; exact h
 | .tnil, cs, _, h => h.elim
 | .tcons _ _, cs, _, h => h.elim
theorem Qj3 {w w' : World} {st st' : Blks} {ρ ρ' : Nat -> Value} {O O' : Nat -> Ob} (hst : ∀ b, st b -> st' b) (hw : ∀ b, st b -> w'.heap[b]? = w.heap[b]?)
  {v : AV} {x : Value} (hc : ∀ id ∈ v.ids, Compat w w' (O id) (O' id) (ρ id) (ρ' id) (v.nests id)) (h : RV1 w st ρ O v x) : RV1 w' st' ρ' O' v x := by
 rcases h with h | ⟨ha, cs, e, h⟩ | ⟨ha, h⟩
 ·exact .inl h
 ·exact .inr (.inl ⟨ha, cs, e, Qb6 hst hw hc h⟩)
 ·exact .inr (.inr ⟨ha, Qb6 hst hw hc h⟩)
theorem Qlj {w w' : World} {st st' : Blks} {ρ ρ' : Nat -> Value} {O O' : Nat -> Ob} (hst : ∀ b, st b -> st' b) (hw : ∀ b, st b -> w'.heap[b]? = w.heap[b]?) :
  ∀ {v : AV} {xs : List Value}, (∀ id ∈ v.ids, Compat w w' (O id) (O' id) (ρ id) (ρ' id) (v.nests id)) -> RT w st ρ O v xs -> RT w' st' ρ' O' v xs
 | .tnil, xs, _, h => h
 | .tcons a b, xs, hc, ⟨v, r, e, h1, h2⟩ => by
  refine ⟨v, r, e, Qj3 hst hw (fun id hid => ?_) h1, Qlj hst hw (fun id hid => ?_) h2⟩
  ·obtain ⟨h1, h2, h3⟩ := hc id (by simp [AV.ids, hid])
   exact ⟨h1, h2, fun hn => h3 (by simp [AV.nests, hn])⟩
  ·obtain ⟨h1, h2, h3⟩ := hc id (by simp [AV.ids, hid])
   exact ⟨h1, h2, fun hn => h3 (by simp [AV.nests, hn])⟩
theorem Qf2 {w w' : World} {st st' : Blks} {ρ ρ' : Nat -> Value} {O O' : Nat -> Ob} (hst : ∀ b, st b -> st' b) (hw : ∀ b, st b -> w'.heap[b]? = w.heap[b]?)
  {v : AV} {x : Value} (hc : ∀ id ∈ v.ids, Compat w w' (O id) (O' id) (ρ id) (ρ' id) (v.nests id)) (h : RV w st ρ O v x) : RV w' st' ρ' O' v x := by
 rcases h with ⟨ht, vs, e, h⟩ | ⟨ht, h⟩
 ·exact .inl ⟨ht, vs, e, Qlj hst hw hc h⟩
 ·exact .inr ⟨ht, Qj3 hst hw hc h⟩
theorem Qcg {O O' : Nat -> Ob} : ∀ {S : Sh} {v : AV}, (∀ id ∈ v.ids, ∀ T e xs, IsArr (O id) T e xs -> ∃ xs', IsArr (O' id) T e xs') -> Fit O S v -> Fit O' S v
 | S, .val s x, _, h => by cases S <;> exact h
 | .pair a b, .pair u v, hc, ⟨h1, h2⟩ => ⟨Qcg (fun id hid => hc id (by simp [AV.ids, hid])) h1, Qcg (fun id hid => hc id (by simp [AV.ids, hid])) h2⟩
 | .sl T e, .nilv T' e', _, h => h
 | .sl T e, .sref id ix p, hc, ⟨xs, h1, h2, h3⟩ => by
  obtain ⟨xs', h4⟩ := hc id (by simp [AV.ids]) T e xs h3
  exact ⟨xs', h1, h2, h4⟩
 | .sl _ _, .unk, _, _ => trivial
 | .sl _ _, .pair _ _, _, h => h.elim
 | .sl _ _, .ptr _ _ _, _, h => h.elim
 | .sl _ _, .iptr _ _, _, h => h.elim
 | .sl _ _, .nq _, _, h => h.elim
 | .sl _ _, .fn _ _, _, h => h.elim
 | .sl _ _, .tnil, _, h => h.elim
 | .sl _ _, .tcons _ _, _, h => h.elim
 | .pair _ _, .unk, _, h => h.elim
 | .pair _ _, .ptr _ _ _, _, h => h.elim
 | .pair _ _, .sref _ _ _, _, h => h.elim
 | .pair _ _, .nilv _ _, _, h => h.elim
 | .pair _ _, .iptr _ _, _, h => h.elim
 | .pair _ _, .nq _, _, h => h.elim
 | .pair _ _, .fn _ _, _, h => h.elim
 | .pair _ _, .tnil, _, h => h.elim
 | .pair _ _, .tcons _ _, _, h => h.elim
 | .int _, .unk, _, h => h.elim
 | .int _, .pair _ _, _, h => h.elim
 | .int _, .ptr _ _ _, _, h => h.elim
 | .int _, .sref _ _ _, _, h => h.elim
 | .int _, .nilv _ _, _, h => h.elim
 | .int _, .iptr _ _, _, h => h.elim
 | .int _, .nq _, _, h => h.elim
 | .int _, .fn _ _, _, h => h.elim
 | .int _, .tnil, _, h => h.elim
 | .int _, .tcons _ _, _, h => h.elim
 | .bool, .unk, _, h => h.elim
 | .bool, .pair _ _, _, h => h.elim
 | .bool, .ptr _ _ _, _, h => h.elim
 | .bool, .sref _ _ _, _, h => h.elim
 | .bool, .nilv _ _, _, h => h.elim
 | .bool, .iptr _ _, _, h => h.elim
 | .bool, .nq _, _, h => h.elim
 | .bool, .fn _ _, _, h => h.elim
 | .bool, .tnil, _, h => h.elim
 | .bool, .tcons _ _, _, h => h.elim
 | .str, .unk, _, h => h.elim
 | .str, .pair _ _, _, h => h.elim
 | .str, .ptr _ _ _, _, h => h.elim
 | .str, .sref _ _ _, _, h => h.elim
 | .str, .nilv _ _, _, h => h.elim
 | .str, .iptr _ _, _, h => h.elim
 | .str, .nq _, _, h => h.elim
 | .str, .fn _ _, _, h => h.elim
 | .str, .tnil, _, h => h.elim
 | .str, .tcons _ _, _, h => h.elim
 | .unit, .unk, _, h => h.elim
 | .unit, .pair _ _, _, h => h.elim
 | .unit, .ptr _ _ _, _, h => h.elim
 | .unit, .sref _ _ _, _, h => h.elim
 | .unit, .nilv _ _, _, h => h.elim
 | .unit, .iptr _ _, _, h => h.elim
 | .unit, .nq _, _, h => h.elim
 | .unit, .fn _ _, _, h => h.elim
 | .unit, .tnil, _, h => h.elim
 | .unit, .tcons _ _, _, h => h.elim
theorem Qdc {w : World} {st : Blks} {ρ : Nat -> Value} {O : Nat -> Ob} : ∀ {v : AV} {cs : List Value}, RC w st ρ O v cs -> Ones cs
 | .unk, _, ⟨v, e, h⟩ => by rw [e]; intro x hx; simp at hx; subst hx; exact h
 | .val S x, _, h => Qgt h
 | .pair a b, _, ⟨c1, c2, e, h1, h2⟩ => by
  rw [e]; intro x hx
  rcases List.mem_append.1 hx with h | h
  ·exact Qdc h1 x h
  ·exact Qdc h2 x h
 | .ptr _ _ _, _, ⟨b, o, _, e⟩ => by rw [e]; intro x hx; simp at hx; subst hx; rfl
 | .sref _ none _, _, ⟨_, _, e, h⟩ => by rw [e]; intro x hx; simp at hx; subst hx; exact h
 | .sref _ (some _) _, _, ⟨b, o, v, _, _, _, e, h⟩ => by rw [e]; intro x hx; simp at hx; subst hx; exact h
 | .nilv _ _, _, ⟨A, e⟩ => by rw [e]; intro x hx; simp at hx; subst hx; rfl
 | .iptr _ _, _, ⟨b, o, cc, e, _⟩ => by rw [e]; intro x hx; simp at hx; subst hx; rfl
 | .nq _, _, ⟨b, e, _⟩ => by rw [e]; intro x hx; simp at hx; subst hx; rfl
 | .fn _ _, _, e => by
  have e : _ = _ := e
  rw [e]; intro x hx; simp at hx; subst hx; rfl
 | .tnil, _, h => h.elim
 | .tcons _ _, _, h => h.elim
theorem Qbe {D : List Nat} : ∀ {a : AV} {id : Nat}, id ∈ (a.scrub D).ids -> id ∈ a.ids /\ id ∉ D
 | .pair a b, id, h => by
  simp only [AV.scrub, AV.ids, List.mem_append] at h ⊢
  rcases h with h | h
  ·exact ⟨.inl (Qbe h).1, (Qbe h).2⟩
  ·exact ⟨.inr (Qbe h).1, (Qbe h).2⟩
 | .tcons a b, id, h => by
  simp only [AV.scrub, AV.ids, List.mem_append] at h ⊢
  rcases h with h | h
  ·exact ⟨.inl (Qbe h).1, (Qbe h).2⟩
  ·exact ⟨.inr (Qbe h).1, (Qbe h).2⟩
 | .ptr j ix p, id, h => by
  simp only [AV.scrub] at h
  cases hm : mem j D <;> rw [hm] at h <;> simp [AV.ids] at h ⊢
  subst h; exact ⟨rfl, Qaq.1 hm⟩
 | .sref j ix p, id, h => by
  simp only [AV.scrub] at h
  cases hm : mem j D <;> rw [hm] at h <;> simp [AV.ids] at h ⊢
  subst h; exact ⟨rfl, Qaq.1 hm⟩
 | .fn f caps, id, h => by
  simp only [AV.scrub] at h
  cases hm : disj caps D <;> rw [hm] at h <;> simp [AV.ids] at h ⊢
  exact ⟨h, Qdo.1 hm id h⟩
 | .unk, _, h => by simp [AV.scrub, AV.ids] at h
 | .val _ _, _, h => by simp [AV.scrub, AV.ids] at h
 | .nilv _ _, _, h => by simp [AV.scrub, AV.ids] at h
 | .iptr _ _, _, h => by simp [AV.scrub, AV.ids] at h
 | .nq _, _, h => by simp [AV.scrub, AV.ids] at h
 | .tnil, _, h => by simp [AV.scrub, AV.ids] at h
theorem Qfk {w : World} {st : Blks} {ρ : Nat -> Value} {O : Nat -> Ob} {D : List Nat} : ∀ {v : AV} {cs : List Value}, RC w st ρ O v cs -> RC w st ρ O (v.scrub D) cs
 | .pair a b, cs, ⟨c1, c2, e, h1, h2⟩ => ⟨c1, c2, e, Qfk h1, Qfk h2⟩
 | .ptr id ix p, cs, h => by
  simp only [AV.scrub]
  cases mem id D
  ·exact h
  ·obtain ⟨b, o, _, e⟩ := h; exact ⟨_, e, rfl⟩
 | .sref id none p, cs, h => by
  simp only [AV.scrub]
  cases mem id D
  ·exact h
  ·obtain ⟨_, _, e, h⟩ := h; exact ⟨_, e, h⟩
 | .sref id (some i) p, cs, h => by
  simp only [AV.scrub]
  cases mem id D
  ·exact h
  ·obtain ⟨_, _, v, _, _, _, e, h⟩ := h; exact ⟨_, e, h⟩
 | .fn f caps, cs, h => by
  simp only [AV.scrub]
  cases disj caps D
  ·exact ⟨_, h, rfl⟩
  ·exact h
 | .unk, _, h => h
 | .val _ _, _, h => h
 | .nilv _ _, _, h => h
 | .iptr _ _, _, h => h
 | .nq _, _, h => h
 | .tnil, _, h => h.elim
 | .tcons _ _, _, h => h.elim
theorem Qlk {w : World} {st : Blks} {ρ : Nat -> Value} {O : Nat -> Ob} {D : List Nat} {a : AV} {v : Value} (h : RV1 w st ρ O a v) : RV1 w st ρ O (a.scrub D) v := by
 rcases h with rfl | ⟨ha, cs, e, h⟩ | ⟨ha, h⟩
 ·exact .inl rfl
 ·refine .inr (.inl ⟨?_, cs, e, Qfk h⟩)
  cases a <;> simp_all [AV.agg, AV.scrub]
 ·have h' := Qfk (D := D) h
  refine .inr (.inr ⟨?_, h'⟩)
  cases a <;> simp only [AV.scrub] at h' ⊢ <;> first | exact ha | (cases mem _ D <;> rfl) | (cases disj _ D <;> rfl)
theorem Qmt {w : World} {st : Blks} {ρ : Nat -> Value} {O : Nat -> Ob} {D : List Nat} : ∀ {a : AV} {vs : List Value}, RT w st ρ O a vs -> RT w st ρ O (a.scrub D) vs
 | .tnil, _, h => h
 | .tcons a b, _, ⟨v, r, e, h1, h2⟩ => ⟨v, r, e, Qlk h1, Qmt h2⟩
theorem Qsk {w : World} {st : Blks} {ρ : Nat -> Value} {O : Nat -> Ob} {D : List Nat} {a : AV} {v : Value} (h : RV w st ρ O a v) : RV w st ρ O (a.scrub D) v := by
 rcases h with ⟨ht, vs, e, h⟩ | ⟨ht, h⟩
 ·refine .inl ⟨?_, vs, e, Qmt h⟩
  cases a <;> simp_all [AV.isTup, AV.scrub]
 ·refine .inr ⟨?_, Qlk h⟩
  cases a <;> simp only [AV.scrub] <;> first | exact ht | (cases mem _ D <;> rfl) | (cases disj _ D <;> rfl)
theorem Qhu {O : Nat -> Ob} {D : List Nat} : ∀ {S : Sh} {v : AV}, Fit O S v -> Fit O S (v.scrub D)
 | .pair a b, .pair u v, ⟨h1, h2⟩ => ⟨Qhu h1, Qhu h2⟩
 | .sl T e, .sref id ix p, h => by
  simp only [AV.scrub]
  cases mem id D
  ·exact h
  ·trivial
 | S, .val s x, h => by cases S <;> exact h
 | .sl T e, .nilv _ _, h => h
 | .sl _ _, .unk, _ => trivial
theorem Qep {D : List Nat} : ∀ {a : AV} {id : Nat}, id ∈ (a.killN D).ids -> id ∈ a.ids
 | .pair a b, id, h => by
  simp only [AV.killN, AV.ids, List.mem_append] at h ⊢
  rcases h with h | h
  ·exact .inl (Qep h)
  ·exact .inr (Qep h)
 | .tcons a b, id, h => by
  simp only [AV.killN, AV.ids, List.mem_append] at h ⊢
  rcases h with h | h
  ·exact .inl (Qep h)
  ·exact .inr (Qep h)
 | .sref j (some i) p, id, h => by
  simp only [AV.killN] at h
  cases hm : mem j D <;> rw [hm] at h <;> simp [AV.ids] at h ⊢
  exact h
 | .sref j none p, id, h => h
 | .ptr _ _ _, _, h => h
 | .fn _ _, _, h => h
 | .unk, _, h => h
 | .val _ _, _, h => h
 | .nilv _ _, _, h => h
 | .iptr _ _, _, h => h
 | .nq _, _, h => h
 | .tnil, _, h => h
theorem Qeh {D : List Nat} {id : Nat} (hd : id ∈ D) : ∀ {a : AV}, (a.killN D).nests id = false
 | .pair a b => by simp [AV.killN, AV.nests, Qeh hd]
 | .tcons a b => by simp [AV.killN, AV.nests, Qeh hd]
 | .sref j (some i) p => by
  simp only [AV.killN]
  cases hm : mem j D
  ·simp only [cond_false, AV.nests]
   rw [Bool.eq_false_iff]; intro e
   have := Nat.eq_of_beq_eq_true e
   subst this
   exact (Qaq.1 hm) hd
  ·rfl
 | .sref j none p => rfl
 | .ptr _ _ _ => rfl
 | .fn _ _ => rfl
 | .unk => rfl
 | .val _ _ => rfl
 | .nilv _ _ => rfl
 | .iptr _ _ => rfl
 | .nq _ => rfl
 | .tnil => rfl
theorem Qfl {w : World} {st : Blks} {ρ : Nat -> Value} {O : Nat -> Ob} {D : List Nat} : ∀ {v : AV} {cs : List Value}, RC w st ρ O v cs -> RC w st ρ O (v.killN D) cs
 | .pair a b, cs, ⟨c1, c2, e, h1, h2⟩ => ⟨c1, c2, e, Qfl h1, Qfl h2⟩
 | .ptr id ix p, cs, h => h
 | .sref id none p, cs, h => h
 | .sref id (some i) p, cs, h => by
  simp only [AV.killN]
  cases mem id D
  ·exact h
  ·obtain ⟨_, _, v, _, _, _, e, h⟩ := h; exact ⟨_, e, h⟩
 | .fn f caps, cs, h => h
 | .unk, _, h => h
 | .val _ _, _, h => h
 | .nilv _ _, _, h => h
 | .iptr _ _, _, h => h
 | .nq _, _, h => h
 | .tnil, _, h => h.elim
 | .tcons _ _, _, h => h.elim
theorem Qll {w : World} {st : Blks} {ρ : Nat -> Value} {O : Nat -> Ob} {D : List Nat} {a : AV} {v : Value} (h : RV1 w st ρ O a v) : RV1 w st ρ O (a.killN D) v := by
 rcases h with rfl | ⟨ha, cs, e, h⟩ | ⟨ha, h⟩
 ·exact .inl rfl
 ·refine .inr (.inl ⟨?_, cs, e, Qfl h⟩)
  cases a <;> simp_all [AV.agg, AV.killN]
 ·have h' := Qfl (D := D) h
  refine .inr (.inr ⟨?_, h'⟩)
  cases a with
  | sref j ix p => cases ix <;> simp only [AV.killN] <;> first | rfl | (cases mem j D <;> rfl)
  | _ => exact ha
theorem Qmu {w : World} {st : Blks} {ρ : Nat -> Value} {O : Nat -> Ob} {D : List Nat} : ∀ {a : AV} {vs : List Value}, RT w st ρ O a vs -> RT w st ρ O (a.killN D) vs
 | .tnil, _, h => h
 | .tcons a b, _, ⟨v, r, e, h1, h2⟩ => ⟨v, r, e, Qll h1, Qmu h2⟩
theorem Qsl {w : World} {st : Blks} {ρ : Nat -> Value} {O : Nat -> Ob} {D : List Nat} {a : AV} {v : Value} (h : RV w st ρ O a v) : RV w st ρ O (a.killN D) v := by
 rcases h with ⟨ht, vs, e, h⟩ | ⟨ht, h⟩
 ·refine .inl ⟨?_, vs, e, Qmu h⟩
  cases a <;> simp_all [AV.isTup, AV.killN]
 ·refine .inr ⟨?_, Qll h⟩
  cases a with
  | sref j ix p => cases ix <;> simp only [AV.killN] <;> first | rfl | (cases mem j D <;> rfl)
  | _ => exact ht
theorem Qhv {O : Nat -> Ob} {D : List Nat} : ∀ {S : Sh} {v : AV}, Fit O S v -> Fit O S (v.killN D)
 | .pair a b, .pair u v, ⟨h1, h2⟩ => ⟨Qhv h1, Qhv h2⟩
 | .sl T e, .sref id none p, h => h
 | .sl T e, .sref id (some i) p, h => by
  obtain ⟨_, h1, _⟩ := h; cases h1
 | S, .val s x, h => by cases S <;> exact h
 | .sl T e, .nilv _ _, h => h
 | .sl _ _, .unk, _ => trivial
theorem Compat.refl_map {w : World} (f : AV -> AV) {o : Ob} {r : Value} {n : Bool} (h : o ≠ .none) : Compat w w o (o.mapA f) r r n := by
 refine ⟨rfl, ?_, fun _ _ _ _ _ _ _ => rfl⟩
 cases o <;> simp_all [Ob.mapA]
theorem Ob.mapA_none {f : AV -> AV} {o : Ob} : o.mapA f = .none ↔ o = .none := by cases o <;> simp [Ob.mapA]
section
variable {w : World} {st : Blks} {ρ : Nat -> Value} {φ : Nat -> Blks} {n : Nat} {a : Act} {s : St}
theorem Sim.mapA (h : Sim w st ρ φ n a s) (f : AV -> AV) (hids : ∀ v id, id ∈ (f v).ids -> id ∈ v.ids) (hunk : f .unk = .unk)
  (hRV : ∀ O v x, RV w st ρ O v x -> RV w st ρ O (f v) x) (hRC : ∀ O v cs, RC w st ρ O v cs -> RC w st ρ O (f v) cs)
  (hFit : ∀ O S v, Fit O S v -> Fit O S (f v)) : Sim w st ρ φ n a (s.mapA f) := by
 have hc : ∀ id, s.hp id ≠ .none -> ∀ m, Compat w w (s.hp id) ((s.mapA f).hp id) (ρ id) (ρ id) m := fun id hn m => Compat.refl_map f hn
 have hids' : ∀ id T e xs, IsArr (s.hp id) T e xs -> ∃ xs', IsArr ((s.mapA f).hp id) T e xs' := fun id T e xs he => ⟨xs, he.mapA f⟩
 refine ⟨h.nt, h.df, fun t ht => by show f (s.env t) = _; rw [h.hi t ht, hunk], fun t => ?_, fun id => ?_, h.lt, h.dj, fun t id hid => ?_, fun k id hid => ?_, h.stlt⟩
 ·exact Qf2 (fun _ h => h) (fun _ _ => rfl) (fun id hid => hc id (h.wf t id (hids _ _ hid)) _) (hRV _ _ _ (h.env t))
 ·have ho := h.ob id
  show ObR w st ρ φ _ id ((s.hp id).mapA f)
  cases hi : s.hp id with
  | none => rw [hi] at ho; exact ho
  | box S v =>
   rw [hi] at ho
   obtain ⟨b, arr, T, h1, h2, h3, h4, h5⟩ := ho
   have hl : ∀ j ∈ (f v).ids, s.hp j ≠ .none := fun j hj => h.wfh id j (by rw [hi]; exact hids _ _ hj)
   exact ⟨b, arr, T, h1, h2, h3, Qcg (fun j hj T e xs he => hids' j T e xs he) (hFit _ _ _ h4),
    Qb6 (fun _ h => h) (fun _ _ => rfl) (fun j hj => hc j (hl j hj) _) (hRC _ _ _ h5)⟩
  | cbox S x => rw [hi] at ho; exact ho
  | arr T e xs => rw [hi] at ho; exact ho
  | iarr T e xs => rw [hi] at ho; exact ho
 ·have := h.wf t id (hids _ _ hid)
  simpa [St.mapA, Ob.mapA_none] using this
 ·have : id ∈ (s.hp k).ids := by
   have hid' : id ∈ ((s.hp k).mapA f).ids := hid
   cases hk : s.hp k with
   | box S v => rw [hk] at hid'; exact hids _ _ hid'
   | _ => rw [hk] at hid'; exact hid'
  have := h.wfh k id this
  simpa [St.mapA, Ob.mapA_none] using this
theorem Sim.killN (h : Sim w st ρ φ n a s) (D : List Nat) : Sim w st ρ φ n a (s.killN D) := by
 cases D with
 | nil => exact h
 | cons d D => exact h.mapA _ (fun _ _ => Qep) rfl (fun _ _ _ => Qsl) (fun _ _ _ => Qfl) (fun _ _ _ => Qhv)
theorem Sim.scrub (h : Sim w st ρ φ n a s) (D : List Nat) : Sim w st ρ (fun id b => φ id b /\ id ∉ D) n a (s.scrub D) := by
 cases D with
 | nil =>
  have : (fun id b => φ id b /\ id ∉ []) = φ := by funext id b; simp
  rw [this]; exact h
 | cons d D' =>
  generalize hD : d :: D' = D
  have hs : s.scrub D = ⟨fun t => (s.env t).scrub D, fun id => bif mem id D then .none else (s.hp id).mapA (AV.scrub D)⟩ := by subst hD; rfl
  rw [hs]
  have hO : ∀ id, id ∉ D -> (bif mem id D then Ob.none else (s.hp id).mapA (AV.scrub D)) = (s.hp id).mapA (AV.scrub D) := fun id hid => by rw [Qaq.2 hid]; rfl
  have hc : ∀ id, id ∉ D -> s.hp id ≠ .none -> ∀ m, Compat w w (s.hp id) (bif mem id D then Ob.none else (s.hp id).mapA (AV.scrub D)) (ρ id) (ρ id) m :=
   fun id hid hn m => by rw [hO id hid]; exact Compat.refl_map _ hn
  refine ⟨h.nt, h.df, fun t ht => by show (s.env t).scrub D = _; rw [h.hi t ht]; rfl, fun t => ?_, fun id => ?_, fun id b hb => h.lt id b hb.1, fun i j b h1 h2 => h.dj i j b h1.1 h2.1, fun t id hid => ?_, fun k id hid => ?_, h.stlt⟩
  ·exact Qf2 (fun _ h => h) (fun _ _ => rfl) (fun id hid => hc id (Qbe hid).2 (h.wf t id (Qbe hid).1) _) (Qsk (h.env t))
  ·have ho := h.ob id
   show ObR w st ρ _ _ id (bif mem id D then Ob.none else (s.hp id).mapA (AV.scrub D))
   by_cases hid : id ∈ D
   ·rw [Qav.2 hid]
    exact fun b hb => hb.2 hid
   ·rw [hO id hid]
    have hφ : (fun b => φ id b /\ id ∉ D) = φ id := by funext b; simp [hid]
    cases hi : s.hp id with
    | none => rw [hi] at ho; exact fun b hb => ho b hb.1
    | box S v =>
     rw [hi] at ho
     obtain ⟨b, arr, T, h1, h2, h3, h4, h5⟩ := ho
     have hl : ∀ j ∈ (v.scrub D).ids, j ∉ D /\ s.hp j ≠ .none := fun j hj => ⟨(Qbe hj).2, h.wfh id j (by rw [hi]; exact (Qbe hj).1)⟩
     exact ⟨b, arr, T, h1, ⟨h2, hid⟩, h3, Qcg (fun j hj T e xs he => ⟨xs, by show IsArr (bif mem j D then Ob.none else (s.hp j).mapA (AV.scrub D)) _ _ _; rw [hO j (hl j hj).1]; exact he.mapA _⟩) (Qhu h4),
      Qb6 (fun _ h => h) (fun _ _ => rfl) (fun j hj => hc j (hl j hj).1 (hl j hj).2 _) (Qfk h5)⟩
    | cbox S x =>
     rw [hi] at ho
     obtain ⟨b, arr, T, fz, h1, h2, h3, h4, h5⟩ := ho
     exact ⟨b, arr, T, fz, h1, h2, h3, h4, fun b hb => h5 b hb.1⟩
    | arr T e xs =>
     rw [hi] at ho
     show Ow w (.sl T e) xs [ρ id] (fun b => φ id b /\ id ∉ D)
     rw [hφ]; exact ho
    | iarr T e xs =>
     rw [hi] at ho
     exact Qgd (fun _ h => h) (fun _ _ => rfl) rfl (fun b hb => ⟨⟨hb, hid⟩, rfl⟩) ho
  ·have h1 := h.wf t id (Qbe hid).1
   show (bif mem id D then Ob.none else (s.hp id).mapA (AV.scrub D)) ≠ .none
   rw [hO id (Qbe hid).2]; simpa [Ob.mapA_none] using h1
  ·have h2 : id ∈ (s.hp k).ids /\ id ∉ D := by
    have hid' : id ∈ (bif mem k D then Ob.none else (s.hp k).mapA (AV.scrub D)).ids := hid
    cases hk : mem k D
    ·rw [hk] at hid'
     cases hk2 : s.hp k with
     | box S v => rw [hk2] at hid'; exact Qbe hid'
     | _ => rw [hk2] at hid'; simp [Ob.mapA, Ob.ids] at hid'
    ·rw [hk] at hid'; simp [Ob.ids] at hid'
   show (bif mem id D then Ob.none else (s.hp id).mapA (AV.scrub D)) ≠ .none
   rw [hO id h2.2]; simpa [Ob.mapA_none] using h.wfh k id h2.1
theorem Sim.put (h : Sim w st ρ φ n a s) (dst : Option Nat) (v : Value) (av : AV) (hd : ∀ d, dst = some d -> d < n)
  (hv : RV w st ρ s.hp av v) (hl : ∀ id ∈ av.ids, s.hp id ≠ .none) : Sim w st ρ φ n (a.put dst v) (s.put dst av) := by
 cases dst with
 | none => exact h
 | some d =>
  have hdn := hd d rfl
  refine ⟨by simp [Act.put, h.nt], h.df, fun t ht => ?_, fun t => ?_, h.ob, h.lt, h.dj, fun t id hid => ?_, h.wfh, h.stlt⟩
  ·show upd s.env d av t = _
   rw [Qa5 _ _ (by omega)]; exact h.hi t ht
  ·show RV w st ρ s.hp (upd s.env d av t) ((a.tmps.setIfInBounds d v).getD t undef)
   by_cases htd : t = d
   ·subst htd
    rw [Qa0]
    have : (a.tmps.setIfInBounds t v).getD t undef = v := by
     have := h.nt
     simp [Array.getD, show t < a.tmps.size by omega]
    rw [this]; exact hv
   ·rw [Qa5 _ _ htd]
    have : (a.tmps.setIfInBounds d v).getD t undef = a.tmps.getD t undef := by
     simp [Array.getElem?_setIfInBounds_ne (Ne.symm htd)]
    rw [this]; exact h.env t
  ·have hid' : id ∈ (upd s.env d av t).ids := hid
   by_cases htd : t = d
   ·subst htd; rw [Qa0] at hid'; exact hl id hid'
   ·rw [Qa5 _ _ htd] at hid'; exact h.wf t id hid'
theorem Qeq {O : Nat -> Ob} (v : Value) : RV w st ρ O .unk v := .inr ⟨rfl, .inl rfl⟩
theorem Sim.upd {w' : World} {st' : Blks} {ρ' : Nat -> Value} {φ' : Nat -> Blks} {up : List (Nat × Ob)} (h : Sim w st ρ φ n a s)
  (hnd : (up.map (·.1)).Nodup) (hst : ∀ b, st b -> st' b) (hw : ∀ b, st b -> w'.heap[b]? = w.heap[b]?)
  (hold : ∀ id, id ∉ up.map (·.1) -> ρ' id = ρ id /\ φ' id = φ id /\ ∀ b, φ id b -> w'.heap[b]? = w.heap[b]?)
  (hnn : ∀ q ∈ up, q.2 ≠ .none)
  (hob : ∀ q ∈ up, ObR w' st' ρ' φ' (updL s.hp up) q.1 q.2)
  (nst : Nat -> Bool)
  (hcomp : ∀ q ∈ up, s.hp q.1 ≠ .none -> Compat w w' (s.hp q.1) q.2 (ρ q.1) (ρ' q.1) (nst q.1))
  (hnst : ∀ q ∈ up, nst q.1 = false -> (∀ t, (s.env t).nests q.1 = false) /\ ∀ k S v, s.hp k = .box S v -> v.nests q.1 = false)
  (hlt : ∀ id b, φ' id b -> b < w'.heap.size /\ ¬ st' b) (hdj : ∀ id id' b, φ' id b -> φ' id' b -> id = id')
  (hstlt : ∀ b, st' b -> b < w'.heap.size) (hwfh : ∀ q ∈ up, ∀ id ∈ q.2.ids, updL s.hp up id ≠ .none) :
  Sim w' st' ρ' φ' n a ⟨s.env, updL s.hp up⟩ := by
 have hlive : ∀ id, s.hp id ≠ .none -> updL s.hp up id ≠ .none := fun id hid => by
  rcases Qby up s.hp id hnd with ⟨_, e⟩ | ⟨v, hv, e⟩
  ·rw [e]; exact hid
  ·rw [e]; exact hnn _ hv
 have hc : ∀ (v : AV), (∀ id, nst id = false -> id ∈ up.map (·.1) -> v.nests id = false) -> ∀ id, s.hp id ≠ .none ->
   Compat w w' (s.hp id) (updL s.hp up id) (ρ id) (ρ' id) (v.nests id) := fun v hvn id hid => by
  rcases Qby up s.hp id hnd with ⟨hn, e⟩ | ⟨u, hu, e⟩
  ·rw [e]
   obtain ⟨h1, h2, h3⟩ := hold id hn
   refine ⟨h1, ?_, fun _ i p b o hp _ => ?_⟩
   ·revert hid; cases s.hp id <;> intro hid <;> first | exact absurd rfl hid | rfl | exact ⟨rfl, rfl, Nat.le_refl _⟩
   ·obtain ⟨T, el, xs, sh, l, c, h4, h5, h6, h7, _⟩ := hp
    have ho := h.ob id
    rcases h4 with h4 | h4 <;> rw [h4] at ho
    ·rcases ho with ⟨rfl, A, hA⟩ | ⟨b', cap, arr, F', hA, hF, _⟩
     ·simp at h7
     ·rw [h5] at hA; cases hA
      exact Qc1 (h3 _ hF)
    ·rcases ho with ⟨rfl, A, hA⟩ | ⟨b', cap, arr, hA, hF, _⟩
     ·simp at h7
     ·rw [h5] at hA; cases hA
      exact Qc1 (h3 _ hF)
  ·rw [e]
   obtain ⟨h1, h2, h3⟩ := hcomp _ hu hid
   refine ⟨h1, h2, fun hn => ?_⟩
   by_cases hns : nst id = true
   ·exact h3 hns
   ·have := hvn id (by simpa using hns) (List.mem_map.2 ⟨_, hu, rfl⟩)
    rw [this] at hn; cases hn
 have hne : ∀ t id, nst id = false -> id ∈ up.map (·.1) -> (s.env t).nests id = false := fun t id hn hm => by
  obtain ⟨q, hq, rfl⟩ := List.mem_map.1 hm
  exact (hnst q hq hn).1 t
 refine ⟨h.nt, h.df, h.hi, fun t => ?_, fun id => ?_, hlt, hdj, fun t id hid => hlive id (h.wf t id hid), fun k id hid => ?_, hstlt⟩
 ·exact Qf2 hst hw (fun id hid => hc _ (hne t) id (h.wf t id hid)) (h.env t)
 ·show ObR w' st' ρ' φ' (updL s.hp up) id (updL s.hp up id)
  rcases Qby up s.hp id hnd with ⟨hn, e⟩ | ⟨u, hu, e⟩
  ·rw [e]
   obtain ⟨h1, h2, h3⟩ := hold id hn
   have ho := h.ob id
   cases hi : s.hp id with
   | none => rw [hi] at ho; show ∀ b, ¬ φ' id b; rw [h2]; exact ho
   | box S v =>
    rw [hi] at ho
    obtain ⟨b, arr, T, h4, h5, h6, h7, h8⟩ := ho
    refine ⟨b, arr, T, by rw [h1]; exact h4, by rw [h2]; exact h5, by rw [h3 b h5]; exact h6, ?_, ?_⟩
    ·refine Qcg (fun j hj T e xs he => ?_) h7
     obtain ⟨xs', h9, _⟩ := Compat.arr (hc .unk (fun _ _ _ => rfl) j he.live) he
     exact ⟨xs', h9⟩
    ·refine Qb6 hst hw (fun j hj => hc v (fun id hn hm => ?_) j (h.wfh id j (by rw [hi]; exact hj))) h8
     obtain ⟨q, hq, rfl⟩ := List.mem_map.1 hm
     exact (hnst q hq hn).2 _ S v hi
   | cbox S x =>
    rw [hi] at ho
    obtain ⟨b, arr, T, fz, h4, h5, h6, h7, h8⟩ := ho
    exact ⟨b, arr, T, fz, by rw [h1]; exact h4, hst b h5, by rw [hw b h5]; exact h6, Qb8 hst hw h7, by rw [h2]; exact h8⟩
   | arr T e xs =>
    rw [hi] at ho
    show Ow w' (.sl T e) xs [ρ' id] (φ' id)
    rw [h1, h2]
    exact Qbw h3 ho
   | iarr T e xs =>
    rw [hi] at ho
    exact Qgd hst hw h1 (fun b hb => ⟨by rw [h2]; exact hb, h3 b hb⟩) ho
  ·rw [e]; exact hob _ hu
 ·have hid' : id ∈ (updL s.hp up k).ids := hid
  rcases Qby up s.hp k hnd with ⟨_, e⟩ | ⟨u, hu, e⟩
  ·rw [e] at hid'; exact hlive id (h.wfh k id hid')
  ·rw [e] at hid'; exact hwfh _ hu id hid'
theorem Sim.world {w' : World} (h : Sim w st ρ φ n a s) (hw : ∀ b, st b -> w'.heap[b]? = w.heap[b]?) (hφ : ∀ id b, φ id b -> w'.heap[b]? = w.heap[b]?)
  (hsz : w.heap.size <= w'.heap.size) : Sim w' st ρ φ n a s := by
 have := Sim.upd (up := []) (w' := w') (st' := st) (ρ' := ρ) (φ' := φ) h List.nodup_nil (fun _ h => h) hw (fun id _ => ⟨rfl, rfl, hφ id⟩)
  (by simp) (by simp) (fun _ => true) (by simp) (by simp) (fun id b hb => ⟨Nat.lt_of_lt_of_le (h.lt id b hb).1 hsz, (h.lt id b hb).2⟩) h.dj
  (fun b hb => Nat.lt_of_lt_of_le (h.stlt b hb) hsz) (by simp)
 exact this
end
end Go.Vm

set_option linter.unusedVariables false
set_option linter.unusedSimpArgs false
namespace Go.Vm
def VR (S : Sh) (v : Value) (cs : List Value) : Prop := (S.isPair = true /\ v = .agg cs.toArray) ∨ (S.isPair = false /\ cs = [v])
def Le (h1 h2 : Nat -> Ob) : Prop := ∀ id, h1 id ≠ .none -> h2 id = h1 id
theorem Qmv (hp : Nat -> Ob) (l : List Nat) : Le (restr hp l) hp := by
 intro id h
 unfold restr at *
 cases hm : mem id l <;> rw [hm] at h <;> simp_all
theorem Le.get {h1 h2 : Nat -> Ob} (h : Le h1 h2) {id : Nat} {o : Ob} (e : h1 id = o) (hn : o ≠ .none) : h2 id = o := by
 rw [h id (by rw [e]; exact hn), e]
theorem Qb7 {w : World} {st : Blks} {ρ : Nat -> Value} {O : Nat -> Ob} {a b : AV} {c1 c2 : List Value}
  (h1 : RC w st ρ O a c1) (h2 : RC w st ρ O b c2) : RC w st ρ O (mkPair a b) (c1 ++ c2) := by
 unfold mkPair
 split
 ·exact ⟨c1, c2, rfl, h1, h2⟩
 ·exact ⟨c1, c2, rfl, h1, h2⟩
theorem Qb5 {O : Nat -> Ob} {S T : Sh} {a b : AV} (h1 : Fit O S a) (h2 : Fit O T b) : Fit O (.pair S T) (mkPair a b) := by
 unfold mkPair
 split
 ·rename_i s x t y
  have e1 : s = S := by cases S <;> exact h1
  have e2 : t = T := by cases T <;> exact h2
  subst e1; subst e2; rfl
 ·exact ⟨h1, h2⟩
theorem Qch {a b : AV} {id : Nat} : id ∈ (mkPair a b).ids -> id ∈ a.ids ∨ id ∈ b.ids := by
 unfold mkPair
 split
 ·simp [AV.ids]
 ·simp [AV.ids]
theorem Qbb {O : Nat -> Ob} {S s : Sh} {x : s.den} : Fit O S (.val s x) ↔ s = S := by cases S <;> exact Iff.rfl
theorem Qfb {O : Nat -> Ob} {S : Sh} {v : AV} (h : Fit O S v) : (∃ x, v = .val S x) ∨ (∃ a b u u', S = .pair a b /\ v = .pair u u' /\ Fit O a u /\ Fit O b u') ∨
  (∃ T e, S = .sl T e /\ (v = .nilv T e ∨ (∃ id xs, v = .sref id none [] /\ IsArr (O id) T e xs) ∨ v = .unk)) := by
 cases v with
 | val s x => have := Qbb.1 h; subst this; exact .inl ⟨x, rfl⟩
 | pair u u' => cases S <;> first | exact h.elim | exact .inr (.inl ⟨_, _, _, _, rfl, rfl, h.1, h.2⟩)
 | nilv T e => cases S <;> first | exact h.elim | (obtain ⟨rfl, rfl⟩ := h; exact .inr (.inr ⟨_, _, rfl, .inl rfl⟩))
 | sref id ix p => cases S <;> first | exact h.elim | (obtain ⟨xs, rfl, rfl, h⟩ := h; exact .inr (.inr ⟨_, _, rfl, .inr (.inl ⟨id, xs, rfl, h⟩)⟩))
 | unk => cases S <;> first | exact h.elim | exact .inr (.inr ⟨_, _, rfl, .inr (.inr rfl)⟩)
 | _ => cases S <;> exact h.elim
theorem Qos {O : Nat -> Ob} {S : Sh} {v : AV} (h : Fit O S v) (hu : v ≠ .unk) : v.agg = S.isPair := by
 rcases Qfb h with ⟨x, rfl⟩ | ⟨a, b, u, u', rfl, rfl, _⟩ | ⟨T, e, rfl, rfl | ⟨id, xs, rfl, _⟩ | rfl⟩
 ·cases S <;> rfl
 ·rfl
 ·rfl
 ·rfl
 ·exact absurd rfl hu
theorem Qk1 {O : Nat -> Ob} {S : Sh} {v : AV} (h : Fit O S v) : v.isTup = false := by
 rcases Qfb h with ⟨x, rfl⟩ | ⟨a, b, u, u', rfl, rfl, _⟩ | ⟨T, e, rfl, rfl | ⟨id, xs, rfl, _⟩ | rfl⟩ <;> rfl
section
variable {w : World} {st : Blks} {ρ : Nat -> Value} {φ : Nat -> Blks} {O : Nat -> Ob}
theorem Qf3 {S : Sh} {av : AV} {v : Value} {cs : List Value} (hf : Fit O S av) (h : RC w st ρ O av cs) (hv : VR S v cs) : RV1 w st ρ O av v := by
 by_cases hu : av = .unk
 ·exact .inl hu
 ·have ha := Qos hf hu
  rcases hv with ⟨hp, e⟩ | ⟨hp, e⟩
  ·exact .inr (.inl ⟨by rw [ha, hp], _, e, by simpa using h⟩)
  ·exact .inr (.inr ⟨by rw [ha, hp], by rw [<- e]; exact h⟩)
theorem Qdp {S : Sh} {av : AV} {v : Value} {cs : List Value} (hf : Fit O S av) (h : RC w st ρ O av cs) (hv : VR S v cs) : RV w st ρ O av v :=
 .inr ⟨Qk1 hf, Qf3 hf h hv⟩
theorem Qqn {S : Sh} {av : AV} {v : Value} (hf : Fit O S av) (hu : av ≠ .unk) (h : RV1 w st ρ O av v) : ∃ cs, VR S v cs /\ RC w st ρ O av cs := by
 have ha := Qos hf hu
 rcases h with h | ⟨h1, cs, e, h⟩ | ⟨h1, h⟩
 ·exact absurd h hu
 ·exact ⟨cs.toList, .inl ⟨by rw [<- ha, h1], by simp [e]⟩, h⟩
 ·exact ⟨[v], .inr ⟨by rw [<- ha, h1], rfl⟩, h⟩
theorem Qdq {S : Sh} {av : AV} {v : Value} (hf : Fit O S av) (hu : av ≠ .unk) (h : RV w st ρ O av v) : ∃ cs, VR S v cs /\ RC w st ρ O av cs := by
 rcases h with ⟨ht, _⟩ | ⟨_, h⟩
 ·rw [Qk1 hf] at ht; cases ht
 ·exact Qqn hf hu h
theorem Qcu {S : Sh} {v : Value} {cs : List Value} (h : VR S v cs) (ho : Ones cs) : v.cells.toList = cs := by
 rcases h with ⟨_, rfl⟩ | ⟨_, rfl⟩
 ·rfl
 ·have := ho v (by simp)
  cases v <;> simp_all [Value.cells, Value.oneCell']
theorem Qc5 {S : Sh} {x : S.den} {v : Value} {cs : List Value} (h : Im w st S x cs) (hv : VR S v cs) : RV w st ρ O (.val S x) v :=
 Qdp (S := S) (Qbb.2 rfl) h hv
theorem Qgx {S : Sh} {x : S.den} {v : Value} (h : RV w st ρ O (.val S x) v) : ∃ cs, VR S v cs /\ Im w st S x cs :=
 Qdq (S := S) (Qbb.2 rfl) (by simp) h
theorem Qci {k : IntKind} {x : Int} {v : Value} (h : RV w st ρ O (.val (.int k) x) v) : v = .int k x := by
 obtain ⟨cs, hv, h⟩ := Qgx h
 cases h
 rcases hv with ⟨h, _⟩ | ⟨_, e⟩
 ·cases h
 ·cases e; rfl
theorem Qdd {x : Bool} {v : Value} (h : RV w st ρ O (.val .bool x) v) : v = .bool x := by
 obtain ⟨cs, hv, h⟩ := Qgx h
 cases h
 rcases hv with ⟨h, _⟩ | ⟨_, e⟩
 ·cases h
 ·cases e; rfl
theorem Qds {x : ByteArray} {v : Value} (h : RV w st ρ O (.val .str x) v) : v = .string x := by
 obtain ⟨cs, hv, h⟩ := Qgx h
 cases h
 rcases hv with ⟨h, _⟩ | ⟨_, e⟩
 ·cases h
 ·cases e; rfl
theorem Qcj (k : IntKind) (x : Int) : RV w st ρ O (.val (.int k) x) (.int k x) := Qc5 (S := .int k) rfl (.inr ⟨rfl, rfl⟩)
theorem Qb3 (x : Bool) : RV w st ρ O (.val .bool x) (.bool x) := Qc5 (S := .bool) rfl (.inr ⟨rfl, rfl⟩)
theorem Qfm (x : ByteArray) : RV w st ρ O (.val .str x) (.string x) := Qc5 (S := .str) rfl (.inr ⟨rfl, rfl⟩)
theorem Qea {T : TypeId} {e : Sh} {xs : List e.den} {v : Value} (h : RV w st ρ O (.val (.sl T e) xs) v) : Im w st (.sl T e) xs [v] := by
 obtain ⟨cs, hv, h⟩ := Qgx h
 rcases hv with ⟨h, _⟩ | ⟨_, e⟩
 ·cases h
 ·rw [<- e]; exact h
theorem Qao {av : AV} {v : Value} (h : RV w st ρ O av v) (ht : av.isTup = false) (ha : av.agg = false) (hu : av ≠ .unk) : RC w st ρ O av [v] := by
 rcases h with ⟨h, _⟩ | ⟨_, h⟩
 ·rw [h] at ht; cases ht
 ·rcases h with h | ⟨h, _⟩ | ⟨_, h⟩
  ·exact absurd h hu
  ·rw [h] at ha; cases ha
  ·exact h
theorem Qa1 {av : AV} {v : Value} (h : RC w st ρ O av [v]) (ht : av.isTup = false) (ha : av.agg = false) : RV w st ρ O av v :=
 .inr ⟨ht, .inr (.inr ⟨ha, h⟩)⟩
theorem Qcc {a : AV} : ∀ {S : Sh} {cs : List Value}, Fit O S a -> RC w st ρ O a cs -> cs.length = S.size := by
 induction a with
 | val s x => intro S cs hf h; have := Qbb.1 hf; subst this; exact Qbn h
 | pair u v ihu ihv =>
  intro S cs hf h
  cases S <;> first | exact hf.elim | skip
  obtain ⟨hf1, hf2⟩ := hf
  obtain ⟨c1, c2, e, h1, h2⟩ := h
  rw [e, List.length_append, ihu hf1 h1, ihv hf2 h2]; rfl
 | nilv T e => intro S cs hf h; cases S <;> first | exact hf.elim | (obtain ⟨A, e⟩ := h; rw [e]; rfl)
 | unk => intro S cs hf h; cases S <;> first | exact hf.elim | (obtain ⟨A, e, _⟩ := h; rw [e]; rfl)
 | sref id ix p =>
  intro S cs hf h
  cases S <;> first | exact hf.elim | skip
  obtain ⟨xs, rfl, rfl, _⟩ := hf
  obtain ⟨_, _, e, _⟩ := h
  rw [e]; rfl
 | _ => intro S cs hf h; cases S <;> exact hf.elim
theorem Qfc : ∀ {p : List Bool} {S s : Sh} {a u : AV} {cs : List Value}, Fit O S a -> RC w st ρ O a cs -> S.sub p = some s -> getA a p = some u ->
  Fit O s u /\ RC w st ρ O u ((cs.drop (S.off p)).take s.size)
 | [], S, s, a, u, cs, hf, h, hs, hg => by
  rw [Qbc] at hs; cases hs
  have : a = u := by cases a <;> simpa [getA] using hg
  subst this
  refine ⟨hf, ?_⟩
  rw [Qba, List.drop_zero, List.take_of_length_le (by rw [Qcc hf h]; exact Nat.le_refl _)]; exact h
 | d :: p, S, s, a, u, cs, hf, h, hs, hg => by
  cases a with
  | val t x =>
   have := Qbb.1 hf; subst this
   cases t with
   | pair ta tb =>
    obtain ⟨c1, c2, e, h1, h2⟩ := h
    cases d with
    | false =>
     simp only [getA] at hg
     have hs' : ta.sub p = some s := by simpa [Sh.sub] using hs
     have := Qfc (S := ta) (a := .val ta x.1) (Qbb.2 rfl) (show RC w st ρ O (.val ta x.1) c1 from h1) hs' hg
     rw [e, Sh.off, drop_left (by rw [Qbn h1]; exact Qbk hs')]; exact this
    | true =>
     simp only [getA] at hg
     have hs' : tb.sub p = some s := by simpa [Sh.sub] using hs
     have := Qfc (S := tb) (a := .val tb x.2) (Qbb.2 rfl) (show RC w st ρ O (.val tb x.2) c2 from h2) hs' hg
     rw [e, Sh.off, <- Qbn h1, Qd1]; exact this
   | _ => cases d <;> simp [getA] at hg
  | pair u1 u2 =>
   cases S <;> try (exact hf.elim)
   rename_i ta tb
   obtain ⟨hf1, hf2⟩ := hf
   obtain ⟨c1, c2, e, h1, h2⟩ := h
   cases d with
   | false =>
    simp only [getA] at hg
    have hs' : ta.sub p = some s := by simpa [Sh.sub] using hs
    have := Qfc hf1 h1 hs' hg
    rw [e, Sh.off, drop_left (by rw [Qcc hf1 h1]; exact Qbk hs')]; exact this
   | true =>
    simp only [getA] at hg
    have hs' : tb.sub p = some s := by simpa [Sh.sub] using hs
    have := Qfc hf2 h2 hs' hg
    rw [e, Sh.off, <- Qcc hf1 h1, Qd1]; exact this
  | _ => cases d <;> simp [getA] at hg
theorem Qfn : ∀ {p : List Bool} {a u : AV} {id : Nat}, getA a p = some u -> id ∈ u.ids -> id ∈ a.ids
 | [], a, u, id, hg, h => by
  have : a = u := by cases a <;> simpa [getA] using hg
  subst this; exact h
 | d :: p, a, u, id, hg, h => by
  cases a with
  | val t x =>
   cases t with
   | pair ta tb => cases d <;> simp only [getA] at hg <;> (have := Qfn hg h; simp [AV.ids] at this)
   | _ => cases d <;> simp [getA] at hg
  | pair u1 u2 =>
   cases d <;> simp only [getA] at hg
   ·simp [AV.ids, Qfn hg h]
   ·simp [AV.ids, Qfn hg h]
  | _ => cases d <;> simp [getA] at hg
def patch (cs : List Value) (o : Nat) (cu : List Value) : List Value := cs.take o ++ cu ++ cs.drop (o + cu.length)
theorem Qqo (cs cu : List Value) (h : cs.length = cu.length) : patch cs 0 cu = cu := by
 simp [patch, List.drop_of_length_le, h]
theorem Qj4 {c1 c2 cu : List Value} {o : Nat} (h : o + cu.length <= c1.length) : patch (c1 ++ c2) o cu = patch c1 o cu ++ c2 := by
 unfold patch
 rw [List.take_append_of_le_length (by omega), List.drop_append_of_le_length (by omega)]
 simp
theorem Qit {c1 c2 cu : List Value} {o : Nat} : patch (c1 ++ c2) (c1.length + o) cu = c1 ++ patch c2 o cu := by
 unfold patch
 rw [List.take_append, List.drop_append]
 simp only [Nat.add_sub_cancel_left, List.take_of_length_le (show c1.length <= c1.length + o by omega), List.drop_of_length_le (show c1.length <= c1.length + o + cu.length by omega)]
 simp [Nat.add_assoc]
theorem Qfd : ∀ {p : List Bool} {S s : Sh} {a u b : AV} {cs cu : List Value}, Fit O S a -> RC w st ρ O a cs -> S.sub p = some s -> Fit O s u -> RC w st ρ O u cu ->
  setA a p u = some b -> Fit O S b /\ RC w st ρ O b (patch cs (S.off p) cu)
 | [], S, s, a, u, b, cs, cu, hf, h, hs, hfu, hu, hg => by
  rw [Qbc] at hs; cases hs
  have : u = b := by cases a <;> simpa [setA] using hg
  subst this
  refine ⟨hfu, ?_⟩
  rw [Qba, Qqo _ _ (by rw [Qcc hf h, Qcc hfu hu])]; exact hu
 | d :: p, S, s, a, u, b, cs, cu, hf, h, hs, hfu, hu, hg => by
  have lu := Qcc hfu hu
  cases a with
  | val t x =>
   have := Qbb.1 hf; subst this
   cases t with
   | pair ta tb =>
    obtain ⟨c1, c2, e, h1, h2⟩ := h
    cases d with
    | false =>
     simp only [setA] at hg
     cases hq : setA (.val ta x.1) p u with
     | none => rw [hq] at hg; cases hg
     | some z =>
      rw [hq] at hg; cases hg
      have hs' : ta.sub p = some s := by simpa [Sh.sub] using hs
      obtain ⟨h3, h4⟩ := Qfd (S := ta) (a := .val ta x.1) (Qbb.2 rfl) (show RC w st ρ O (.val ta x.1) c1 from h1) hs' hfu hu hq
      refine ⟨Qb5 h3 (Qbb.2 rfl), ?_⟩
      rw [e, Sh.off, Qj4 (by rw [Qbn h1, lu]; exact Qbk hs')]
      exact Qb7 h4 h2
    | true =>
     simp only [setA] at hg
     cases hq : setA (.val tb x.2) p u with
     | none => rw [hq] at hg; cases hg
     | some z =>
      rw [hq] at hg; cases hg
      have hs' : tb.sub p = some s := by simpa [Sh.sub] using hs
      obtain ⟨h3, h4⟩ := Qfd (S := tb) (a := .val tb x.2) (Qbb.2 rfl) (show RC w st ρ O (.val tb x.2) c2 from h2) hs' hfu hu hq
      refine ⟨Qb5 (Qbb.2 rfl) h3, ?_⟩
      rw [e, Sh.off, <- Qbn h1, Qit]
      exact Qb7 (a := .val ta x.1) h1 h4
   | _ => cases d <;> simp [setA] at hg
  | pair u1 u2 =>
   cases S <;> try (exact hf.elim)
   rename_i ta tb
   obtain ⟨hf1, hf2⟩ := hf
   obtain ⟨c1, c2, e, h1, h2⟩ := h
   cases d with
   | false =>
    simp only [setA] at hg
    cases hq : setA u1 p u with
    | none => rw [hq] at hg; cases hg
    | some z =>
     rw [hq] at hg; cases hg
     have hs' : ta.sub p = some s := by simpa [Sh.sub] using hs
     obtain ⟨h3, h4⟩ := Qfd hf1 h1 hs' hfu hu hq
     refine ⟨Qb5 h3 hf2, ?_⟩
     rw [e, Sh.off, Qj4 (by rw [Qcc hf1 h1, lu]; exact Qbk hs')]
     exact Qb7 h4 h2
   | true =>
    simp only [setA] at hg
    cases hq : setA u2 p u with
    | none => rw [hq] at hg; cases hg
    | some z =>
     rw [hq] at hg; cases hg
     have hs' : tb.sub p = some s := by simpa [Sh.sub] using hs
     obtain ⟨h3, h4⟩ := Qfd hf2 h2 hs' hfu hu hq
     refine ⟨Qb5 hf1 h3, ?_⟩
     rw [e, Sh.off, <- Qcc hf1 h1, Qit]
     exact Qb7 h1 h4
  | _ => cases d <;> simp [setA] at hg
theorem Qfo : ∀ {p : List Bool} {a u b : AV} {id : Nat}, setA a p u = some b -> id ∈ b.ids -> id ∈ a.ids ∨ id ∈ u.ids
 | [], a, u, b, id, hg, h => by
  have : u = b := by cases a <;> simpa [setA] using hg
  subst this; exact .inr h
 | d :: p, a, u, b, id, hg, h => by
  cases a with
  | val t x =>
   cases t with
   | pair ta tb =>
    cases d <;> simp only [setA] at hg
    ·cases hq : setA (.val ta x.1) p u with
     | none => rw [hq] at hg; cases hg
     | some z =>
      rw [hq] at hg; cases hg
      rcases Qch h with h | h
      ·rcases Qfo hq h with h | h
       ·simp [AV.ids] at h
       ·exact .inr h
      ·simp [AV.ids] at h
    ·cases hq : setA (.val tb x.2) p u with
     | none => rw [hq] at hg; cases hg
     | some z =>
      rw [hq] at hg; cases hg
      rcases Qch h with h | h
      ·simp [AV.ids] at h
      ·rcases Qfo hq h with h | h
       ·simp [AV.ids] at h
       ·exact .inr h
   | _ => cases d <;> simp [setA] at hg
  | pair u1 u2 =>
   cases d <;> simp only [setA] at hg
   ·cases hq : setA u1 p u with
    | none => rw [hq] at hg; cases hg
    | some z =>
     rw [hq] at hg; cases hg
     rcases Qch h with h | h
     ·rcases Qfo hq h with h | h
      ·exact .inl (by simp [AV.ids, h])
      ·exact .inr h
     ·exact .inl (by simp [AV.ids, h])
   ·cases hq : setA u2 p u with
    | none => rw [hq] at hg; cases hg
    | some z =>
     rw [hq] at hg; cases hg
     rcases Qch h with h | h
     ·exact .inl (by simp [AV.ids, h])
     ·rcases Qfo hq h with h | h
      ·exact .inl (by simp [AV.ids, h])
      ·exact .inr h
  | _ => cases d <;> simp [setA] at hg
def Sh.zc : Sh -> List Value
 | .int k => [.int k 0]
 | .bool => [.bool false]
 | .str => [.string ByteArray.empty]
 | .sl _ _ => [.slice none 0 0]
 | .pair a b => a.zc ++ b.zc
 | .unit => []
theorem Qj5 : ∀ (S : Sh), S.zc.length = S.size
 | .int _ => rfl
 | .bool => rfl
 | .str => rfl
 | .sl _ _ => rfl
 | .pair a b => by simp [Sh.zc, Sh.size, Qj5 a, Qj5 b]
 | .unit => rfl
theorem Qdt : ∀ (S : Sh), Fit O S (zeroAV S) /\ RC w st ρ O (zeroAV S) S.zc
 | .int k => ⟨rfl, rfl⟩
 | .bool => ⟨rfl, rfl⟩
 | .str => ⟨rfl, rfl⟩
 | .sl T e => ⟨⟨rfl, rfl⟩, none, rfl⟩
 | .pair a b => ⟨Qb5 (Qdt a).1 (Qdt b).1, Qb7 (Qdt a).2 (Qdt b).2⟩
 | .unit => ⟨rfl, rfl⟩
theorem Qe2 : ∀ (S : Sh) (id : Nat), id ∉ (zeroAV S).ids
 | .int k, _ => by simp [zeroAV, AV.ids]
 | .bool, _ => by simp [zeroAV, AV.ids]
 | .str, _ => by simp [zeroAV, AV.ids]
 | .sl T e, _ => by simp [zeroAV, AV.ids]
 | .pair a b, id => fun h => by rcases Qch h with h | h; exact Qe2 a id h; exact Qe2 b id h
 | .unit, _ => by simp [zeroAV, AV.ids]
theorem Qfe : ∀ (S : Sh) (F : Blks), Ow w S S.zero S.zc F
 | .int k, _ => rfl
 | .bool, _ => rfl
 | .str, _ => rfl
 | .sl T e, _ => .inl ⟨rfl, none, rfl⟩
 | .pair a b, F => ⟨a.zc, b.zc, fun _ => False, fun _ => False, rfl, fun _ h _ => h, fun _ h => h.elim, fun _ h => h.elim, Qfe a _, Qfe b _⟩
 | .unit, _ => rfl
end
section
variable {w : World} {st : Blks} {ρ : Nat -> Value} {φ : Nat -> Blks} {n : Nat} {a : Act} {s : St} {hp : Nat -> Ob}
theorem Im_up {st st' : Blks} {S : Sh} {x : S.den} {cs : List Value} (hst : ∀ b, st b -> st' b) (h : Im w st S x cs) : Im w st' S x cs :=
 Qb8 hst (fun _ _ => rfl) h
theorem Sim.elem (h : Sim w st ρ φ n a s) {id : Nat} {T : TypeId} {e : Sh} {xs : List e.den} (ho : s.hp id = .arr T e xs) {i : Nat} {x : e.den} (hx : xs[i]? = some x) :
  ∃ b cap arr F1, ρ id = .slice (some ⟨b, 0, none⟩) xs.length cap /\ φ id b /\ w.heap[b]? = some (.cells arr T (0, 0)) /\ arr.size = cap * e.size /\ xs.length <= cap /\
   (∀ c, F1 c -> φ id c) /\ Ow w e x ((arr.toList.drop (i * e.size)).take e.size) F1 := by
 have hr := h.ob id
 rw [ho] at hr
 rcases hr with ⟨rfl, A, hA⟩ | ⟨b, cap, arr, F', hA, h1, h2, h3, h4, h5, h6, h7, h8⟩
 ·simp at hx
 ·obtain ⟨F1, hF1, hrr⟩ := Qiq h8 hx
  exact ⟨b, cap, arr, F1, by simpa using hA, h1, h4, h7, h5, fun c hc => h3 c (hF1 c hc), hrr⟩
theorem Sim.ielem (h : Sim w st ρ φ n a s) {id : Nat} {T : TypeId} {e : Sh} {xs : List e.den} (ho : s.hp id = .iarr T e xs) {i : Nat} {x : e.den} (hx : xs[i]? = some x) :
  ∃ b cap arr, ρ id = .slice (some ⟨b, 0, none⟩) xs.length cap /\ φ id b /\ w.heap[b]? = some (.cells arr T (0, 0)) /\ arr.size = cap * e.size /\ xs.length <= cap /\
   Im w st e x ((arr.toList.drop (i * e.size)).take e.size) := by
 have hr := h.ob id
 rw [ho] at hr
 rcases hr with ⟨rfl, A, hA⟩ | ⟨b, cap, arr, hA, h1, h4, h5, h7, h8⟩
 ·simp at hx
 ·exact ⟨b, cap, arr, hA, h1, h4, h7, h5, h8 i x hx⟩
theorem Qde {e : Sh} {xs : List e.den} {i : Int} (h : i.toNat < xs.length) : xs[i.toNat]? = some (rdL xs i) := by
 simp [rdL, h]
theorem Qbo {w : World} {b o sz : Nat} {arr : Array Value} {T : TypeId} {fz : Nat × Nat} (h : w.heap[b]? = some (.cells arr T fz)) (j : Nat) (v : Value)
  (hv : ((arr.toList.drop o).take sz)[j]? = some v) : w.cell? ⟨b, o + j, none⟩ = some v := by
 rw [List.getElem?_take] at hv
 split at hv
 ·rw [List.getElem?_drop] at hv
  simp only [World.cell?, h, Option.isSome_none, Bool.false_eq_true, if_false]
  rw [<- Array.getElem?_toList]; exact hv
 ·cases hv
theorem Qcv (h : Sim w st ρ φ n a s) (hle : Le hp s.hp) {v : AV} : ∀ {S : Sh} {x : S.den} {cs : List Value}, toVal hp S v = some x -> RC w st ρ s.hp v cs ->
  Im w (fun b => st b ∨ ∃ id ∈ v.ids, φ id b) S x cs := by
 induction v with
 | val t y =>
  intro S x cs ht hr
  have ht' : cst t S y = some x := by cases S <;> exact ht
  obtain ⟨e, he⟩ := Qbl ht'
  subst e; subst he
  exact Im_up (fun b hb => .inl hb) hr
 | pair u v ihu ihv =>
  intro S x cs ht hr
  cases S with
  | pair p q =>
   obtain ⟨c1, c2, e, h1, h2⟩ := hr
   simp only [toVal] at ht
   cases h3 : toVal hp p u with
   | none => rw [h3] at ht; simp at ht
   | some y =>
    cases h4 : toVal hp q v with
    | none => rw [h3, h4] at ht; simp at ht
    | some z =>
     rw [h3, h4] at ht
     have ht : (y, z) = x := Option.some.inj ht
     subst ht
     refine ⟨c1, c2, e, Im_up ?_ (ihu h3 h1), Im_up ?_ (ihv h4 h2)⟩
     ·rintro b (hb | ⟨id, hid, hb⟩)
      ·exact .inl hb
      ·exact .inr ⟨id, by simp [AV.ids, hid], hb⟩
     ·rintro b (hb | ⟨id, hid, hb⟩)
      ·exact .inl hb
      ·exact .inr ⟨id, by simp [AV.ids, hid], hb⟩
  | _ => cases ht
 | nilv T' e' =>
  intro S x cs ht hr
  cases S with
  | sl T e =>
   obtain ⟨A, ec⟩ := hr
   simp only [toVal] at ht
   split at ht
   ·cases ht
    exact ⟨A, 0, ec, Nat.le_refl _, fun h => absurd rfl h⟩
   ·cases ht
  | _ => cases ht
 | sref id ix p =>
  intro S x cs ht hr
  cases S with
  | sl T e =>
   cases ix with
   | none =>
    obtain ⟨hp0, hO, ec, _⟩ := hr
    simp only [toVal] at ht
    cases hq : hp id with
    | arr T' e' xs =>
     rw [hq] at ht; simp only at ht
     obtain ⟨ee, he⟩ := Qbl ht
     cases ee; subst he
     have ho := h.ob id
     rw [hle.get hq (by simp)] at ho
     rw [ec]
     exact Ow_Im (fun b hb => .inr ⟨id, by simp [AV.ids], hb⟩) ho
    | _ => rw [hq] at ht; cases ht
   | some i =>
    obtain ⟨b, o, v, hpt, hsub, hcell, ec, _⟩ := hr
    simp only [toVal] at ht
    cases hq : hp id with
    | arr T' e' xs =>
     rw [hq] at ht; simp only at ht
     have hob := hle.get hq (by simp)
     obtain ⟨T0, e0, xs0, s0, l, c, h1, h2, h3, h4, h5, h6⟩ := hpt
     cases h1.of_arr hob
     cases hg : getT e' (rdL xs i) p with
     | none => rw [hg] at ht; cases ht
     | some q =>
      obtain ⟨t, y⟩ := q
      rw [hg] at ht; simp only at ht
      obtain ⟨ee, he⟩ := Qbl ht
      cases ee; subst he
      obtain ⟨b', cap, arr, F1, g1, g2, g3, g4, g5, g6, g7⟩ := h.elem hob (Qde h4)
      rw [h2] at g1; cases g1
      obtain ⟨F2, hF2, hr, _⟩ := Qgu g7 hg
      have hcs : ((((arr.toList.drop (i.toNat * e'.size)).take e'.size).drop (e'.off p)).take 1) = [v] := by
       have hl1 : ((((arr.toList.drop (i.toNat * e'.size)).take e'.size).drop (e'.off p)).take 1).length = 1 := Qb9 hr
       match hm : (((arr.toList.drop (i.toNat * e'.size)).take e'.size).drop (e'.off p)).take 1, hl1 with
       | [z], _ =>
        have hz : ((((arr.toList.drop (i.toNat * e'.size)).take e'.size).drop (e'.off p)).take 1)[0]? = some z := by rw [hm]; rfl
        rw [List.getElem?_take, if_pos (by omega), List.getElem?_drop] at hz
        have := Qbo g3 _ _ hz
        rw [Nat.add_zero, <- h6, hcell] at this
        cases this; rfl
      have hr' : Ow w (.sl T e) y [v] F2 := by
       have := hr
       simp only [Sh.size] at this
       rw [hcs] at this; exact this
      rw [ec]
      exact Ow_Im (fun c hc => .inr ⟨id, by simp [AV.ids], g6 c (hF2 c hc)⟩) hr'
    | _ => rw [hq] at ht; cases ht
  | _ => cases ht
 | _ => intro S x cs ht hr; cases S <;> cases ht
theorem Qck {S t : Sh} {y : t.den} {x : S.den} {D : List Nat} (ht : absorb hp S (.val t y) = some (x, D)) : ∃ e : t = S, t.flat = true /\ e ▸ y = x /\ D = [] := by
 have ht' : (bif t.flat then (match cst t S y with | some y => some (y, ([] : List Nat)) | none => none) else none) = some (x, D) := by cases S <;> exact ht
 cases hf : t.flat <;> rw [hf] at ht'
 ·cases ht'
 ·simp only [cond_true] at ht'
  cases hc : cst t S y with
  | none => rw [hc] at ht'; cases ht'
  | some z =>
   rw [hc] at ht'
   obtain ⟨e, he⟩ := Qbl hc
   cases ht'
   exact ⟨e, rfl, he, rfl⟩
theorem Qc3 {p q : Sh} {u v : AV} {x : (Sh.pair p q).den} {D : List Nat} (ht : absorb hp (.pair p q) (.pair u v) = some (x, D)) :
  ∃ y z l m, absorb hp p u = some (y, l) /\ absorb hp q v = some (z, m) /\ x = (y, z) /\ D = l ++ m := by
 simp only [absorb] at ht
 cases h3 : absorb hp p u with
 | none => rw [h3] at ht; simp at ht
 | some y =>
  cases h4 : absorb hp q v with
  | none => rw [h3, h4] at ht; simp at ht
  | some z =>
   obtain ⟨y, l⟩ := y; obtain ⟨z, m⟩ := z
   rw [h3, h4] at ht
   cases ht
   exact ⟨y, z, l, m, rfl, rfl, rfl, rfl⟩
theorem Qdf {T T' : TypeId} {e e' : Sh} {x : (Sh.sl T e).den} {D : List Nat} (ht : absorb hp (.sl T e) (.nilv T' e') = some (x, D)) : x = [] /\ D = [] := by
 simp only [absorb] at ht
 split at ht
 ·cases ht; exact ⟨rfl, rfl⟩
 ·cases ht
theorem Qcp {T : TypeId} {e : Sh} {id : Nat} {ix : Option Int} {p : List Bool} {x : (Sh.sl T e).den} {D : List Nat} (ht : absorb hp (.sl T e) (.sref id ix p) = some (x, D)) :
  ix = none /\ p = [] /\ D = [id] /\ hp id = .arr T e x := by
 cases ix with
 | some i => simp [absorb] at ht
 | none =>
  cases p with
  | cons _ _ => simp [absorb] at ht
  | nil =>
   simp only [absorb] at ht
   cases hq : hp id with
   | arr T' e' xs =>
    rw [hq] at ht; simp only at ht
    cases hc : cst (.sl T' e') (.sl T e) xs with
    | none => rw [hc] at ht; cases ht
    | some z =>
     rw [hc] at ht
     obtain ⟨ee, he⟩ := Qbl hc
     cases ee; cases ht; subst he
     exact ⟨rfl, rfl, rfl, rfl⟩
   | _ => rw [hq] at ht; cases ht
theorem Qcl (h : Sim w st ρ φ n a s) (hle : Le hp s.hp) {v : AV} : ∀ {S : Sh} {x : S.den} {D : List Nat} {cs : List Value}, absorb hp S v = some (x, D) -> D.Nodup -> RC w st ρ s.hp v cs ->
  Ow w S x cs (fun b => ∃ id ∈ D, φ id b) := by
 induction v with
 | val t y =>
  intro S x D cs ht hn hr
  obtain ⟨e, hf, he, rfl⟩ := Qck ht
  subst e; subst he
  exact Im_Ow hf hr
 | pair u v ihu ihv =>
  intro S x D cs ht hn hr
  cases S with
  | pair p q =>
   obtain ⟨c1, c2, e, h1, h2⟩ := hr
   obtain ⟨y, z, l, m, h3, h4, rfl, rfl⟩ := Qc3 ht
   have hn' := List.nodup_append.1 hn
   refine ⟨c1, c2, _, _, e, ?_, ?_, ?_, ihu h3 hn'.1 h1, ihv h4 hn'.2.1 h2⟩
   ·rintro b ⟨i, hi, hb⟩ ⟨j, hj, hb'⟩
    have := h.dj i j b hb hb'
    subst this
    exact hn'.2.2 i hi i hj rfl
   ·rintro b ⟨i, hi, hb⟩; exact ⟨i, by simp [hi], hb⟩
   ·rintro b ⟨i, hi, hb⟩; exact ⟨i, by simp [hi], hb⟩
  | _ => cases ht
 | nilv T' e' =>
  intro S x D cs ht hn hr
  cases S with
  | sl T e =>
   obtain ⟨A, ec⟩ := hr
   obtain ⟨rfl, rfl⟩ := Qdf ht
   exact .inl ⟨rfl, A, ec⟩
  | _ => cases ht
 | sref id ix p =>
  intro S x D cs ht hn hr
  cases S with
  | sl T e =>
   obtain ⟨rfl, rfl, rfl, hq⟩ := Qcp ht
   obtain ⟨_, _, ec, _⟩ := hr
   have ho := h.ob id
   rw [hle.get hq (by simp)] at ho
   rw [ec]
   exact Ow_up (fun b hb => ⟨id, by simp, hb⟩) ho
  | _ => cases ix <;> cases p <;> cases ht
 | _ => intro S x D cs ht hn hr; cases S <;> cases ht
theorem Qgy {v : AV} : ∀ {S : Sh} {x : S.den} {D : List Nat}, absorb hp S v = some (x, D) -> ∀ id ∈ D, id ∈ v.ids /\ hp id ≠ .none := by
 induction v with
 | val t y =>
  intro S x D ht
  obtain ⟨e, hf, he, rfl⟩ := Qck ht
  simp
 | pair u v ihu ihv =>
  intro S x D ht
  cases S with
  | pair p q =>
   obtain ⟨y, z, l, m, h3, h4, rfl, rfl⟩ := Qc3 ht
   intro id hid
   rcases List.mem_append.1 hid with hid | hid
   ·have := ihu h3 id hid; exact ⟨by simp [AV.ids, this.1], this.2⟩
   ·have := ihv h4 id hid; exact ⟨by simp [AV.ids, this.1], this.2⟩
  | _ => cases ht
 | nilv T' e' =>
  intro S x D ht
  cases S with
  | sl T e => obtain ⟨_, rfl⟩ := Qdf ht; simp
  | _ => cases ht
 | sref id ix p =>
  intro S x D ht
  cases S with
  | sl T e =>
   obtain ⟨rfl, rfl, rfl, hq⟩ := Qcp ht
   intro j hj
   simp at hj; subst hj
   exact ⟨by simp [AV.ids], by rw [hq]; simp⟩
  | _ => cases ix <;> cases p <;> cases ht
 | _ => intro S x D ht; cases S <;> cases ht
theorem Qo8 {v : AV} : ∀ {S : Sh} {x : S.den} {D : List Nat}, absorb hp S v = some (x, D) -> ∀ id ∈ D, ∃ T e xs, hp id = .arr T e xs := by
 induction v with
 | val t y =>
  intro S x D ht
  obtain ⟨e, hf, he, rfl⟩ := Qck ht
  simp
 | pair u v ihu ihv =>
  intro S x D ht
  cases S with
  | pair p q =>
   obtain ⟨y, z, l, m, h3, h4, rfl, rfl⟩ := Qc3 ht
   intro id hid
   rcases List.mem_append.1 hid with hid | hid
   ·exact ihu h3 id hid
   ·exact ihv h4 id hid
  | _ => cases ht
 | nilv T' e' =>
  intro S x D ht
  cases S with
  | sl T e => obtain ⟨_, rfl⟩ := Qdf ht; simp
  | _ => cases ht
 | sref id ix p =>
  intro S x D ht
  cases S with
  | sl T e =>
   obtain ⟨rfl, rfl, rfl, hq⟩ := Qcp ht
   intro j hj
   simp at hj; subst hj
   exact ⟨_, _, _, hq⟩
  | _ => cases ix <;> cases p <;> cases ht
 | _ => intro S x D ht; cases S <;> cases ht
theorem Qgz (hle : Le hp s.hp) {v : AV} : ∀ {S : Sh}, fits hp S v = true -> Fit s.hp S v /\ v ≠ .unk := by
 induction v with
 | val t y =>
  intro S h
  have h' : decide (t = S) = true := by cases S <;> exact h
  exact ⟨Qbb.2 (of_decide_eq_true h'), by simp⟩
 | pair u v ihu ihv =>
  intro S h
  cases S with
  | pair p q =>
   simp only [fits, Bool.and_eq_true] at h
   exact ⟨⟨(ihu h.1).1, (ihv h.2).1⟩, by simp⟩
  | _ => cases h
 | nilv T' e' =>
  intro S h
  cases S with
  | sl T e =>
   simp only [fits, Bool.and_eq_true, decide_eq_true_eq] at h
   exact ⟨⟨h.1.symm, h.2.symm⟩, by simp⟩
  | _ => cases h
 | sref id ix p =>
  intro S h
  cases S with
  | sl T e =>
   cases ix with
   | some i => simp [fits] at h
   | none =>
    cases p with
    | cons _ _ => simp [fits] at h
    | nil =>
     simp only [fits] at h
     cases hq : hp id with
     | arr T' e' xs =>
      rw [hq] at h; simp only [Bool.and_eq_true, decide_eq_true_eq] at h
      obtain ⟨rfl, rfl⟩ := h
      exact ⟨⟨xs, rfl, rfl, .inl (hle.get hq (by simp))⟩, by simp⟩
     | iarr T' e' xs =>
      rw [hq] at h; simp only [Bool.and_eq_true, decide_eq_true_eq] at h
      obtain ⟨rfl, rfl⟩ := h
      exact ⟨⟨xs, rfl, rfl, .inr (hle.get hq (by simp))⟩, by simp⟩
     | _ => rw [hq] at h; cases h
  | _ => cases ix <;> cases p <;> cases h
 | _ => intro S h; cases S <;> cases h
end
end Go.Vm

set_option linter.unusedVariables false
set_option linter.unusedSimpArgs false
namespace Go.Vm
def Sh.dep : Sh -> Nat
 | .pair a b => max a.dep b.dep + 1
 | _ => 0
theorem Qk2 : ∀ {S : Sh} {p : List Bool} {s : Sh}, S.sub p = some s -> s.dep <= S.dep /\ (p ≠ [] -> s.dep < S.dep)
 | S, [], s, h => by rw [Qbc] at h; cases h; exact ⟨Nat.le_refl _, fun h => absurd rfl h⟩
 | .pair a b, false :: p, s, h => by
  have := (Qk2 (S := a) (p := p) (by simpa [Sh.sub] using h)).1
  simp only [Sh.dep]; exact ⟨by omega, fun _ => by omega⟩
 | .pair a b, true :: p, s, h => by
  have := (Qk2 (S := b) (p := p) (by simpa [Sh.sub] using h)).1
  simp only [Sh.dep]; exact ⟨by omega, fun _ => by omega⟩
 | .int _, _ :: _, _, h => by simp [Sh.sub] at h
 | .bool, _ :: _, _, h => by simp [Sh.sub] at h
 | .str, _ :: _, _, h => by simp [Sh.sub] at h
 | .sl _ _, _ :: _, _, h => by simp [Sh.sub] at h
 | .unit, _ :: _, _, h => by simp [Sh.sub] at h
theorem fp_ne {n j : Nat} (h : 2 <= n) : fp n j ≠ [] := by
 match n, h with
 | n + 2, _ => cases j <;> simp [fp]
def Desc (X : Ctx) : Sh -> Nat -> TypeDesc -> Prop
 | .int k, _, d => d = .int k
 | .bool, _, d => d = .bool
 | .str, _, d => d = .string
 | .sl E e, _, d => d = .slice E /\ ∃ m, X.ty E = some (e, m)
 | .pair a b, nf, d => ∃ fs : Array Field, d = .struct fs /\ (2 <= nf /\ fs.size = nf) /\
   ∀ j, j < nf -> ∃ f s m, fs[j]? = some f /\ (Sh.pair a b).sub (fp nf j) = some s /\ f.offset = (Sh.pair a b).off (fp nf j) /\ X.ty f.type = some (s, m)
 | .unit, _, _ => False
structure TyOk (P : Program) (X : Ctx) (T : TypeId) (S : Sh) (nf : Nat) : Prop where
 pos : 0 < S.size
 dep : S.dep < 10000
 nfp : S.isPair = false -> nf = 0
 info : ∃ i, P.info? T = some i /\ i.size = S.size /\ i.bytes <= 32768 /\ ∃ z, i.zero = some z /\ VR S z S.zc
 und : ∃ d, P.underlying T = some d /\ Desc X S nf d
 eqv : ∀ fs, P.underlying T = some (.struct fs) -> S.plain = true -> P.stoodInHeld T = false /\ P.eqGuardType P.depth T = false /\ (∀ f ∈ fs.toList, (f.name == "_") = false) /\
  fs.toList.length = nf
def TyAll (P : Program) (X : Ctx) : Prop := ∀ T S nf, X.ty T = some (S, nf) -> TyOk P X T S nf
section
variable {P : Program} {X : Ctx}
theorem TyOk.size {T : TypeId} {S : Sh} {nf : Nat} (h : TyOk P X T S nf) (w : World) : (sizeOf T).run P w = .ok S.size w := by
 obtain ⟨i, h1, h2, _⟩ := h.info
 simp [sizeOf, typeInfo, h1, h2]
theorem Desc.agg {S : Sh} {nf : Nat} {d : TypeDesc} (h : Desc X S nf d) : (match d with | .struct _ | .array _ _ => true | _ => false) = S.isPair := by
 cases S with
 | pair a b => obtain ⟨fs, rfl, _⟩ := h; rfl
 | sl T e => obtain ⟨rfl, _⟩ := h; rfl
 | unit => exact h.elim
 | _ => cases h; rfl
theorem TyOk.isAgg {T : TypeId} {S : Sh} {nf : Nat} (h : TyOk P X T S nf) (w : World) : (isAgg T).run P w = .ok S.isPair w := by
 obtain ⟨d, h1, h2⟩ := h.und
 have h3 := h2.agg
 unfold Go.isAgg
 rw [Sem.run_bind, run_underlying h1 w]
 simp only [Result.andThen_ok]
 cases d <;> simp only at h3 ⊢ <;> rw [<- h3] <;> rfl
theorem TyOk.zero {T : TypeId} {S : Sh} {nf : Nat} (h : TyOk P X T S nf) : ∃ z, VR S z S.zc /\ ∀ w, (zeroValue T).run P w = .ok z w := by
 obtain ⟨i, h1, h2, _, z, h3, h4⟩ := h.info
 exact ⟨z, h4, fun w => by simp [zeroValue, typeInfo, h1, h3]⟩
theorem Qcz (b o j : Nat) : (⟨b, o, none⟩ : Addr).add j = ⟨b, o + j, none⟩ := by
 unfold Addr.add
 split
 ·subst_vars; rfl
 ·rfl
theorem Qmw {S : Sh} (hp : S.isPair = false) (h : 0 < S.size) : S.size = 1 := by cases S <;> simp_all [Sh.size, Sh.isPair]
theorem TyOk.loadVar {T : TypeId} {S : Sh} {nf : Nat} (h : TyOk P X T S nf) {w : World} {b o : Nat} {cs : List Value} (hl : cs.length = S.size)
  (hc : ∀ j v, cs[j]? = some v -> w.cell? ⟨b, o + j, none⟩ = some v) : ∃ v, VR S v cs /\ (Go.loadVar T ⟨b, o, none⟩).run P w = .ok v w := by
 cases hp : S.isPair with
 | true =>
  refine ⟨.agg cs.toArray, .inl ⟨hp, rfl⟩, ?_⟩
  have hc' := run_loadCells_list (P := P) w ⟨b, o, none⟩ cs (fun j v hv => by rw [Qcz]; exact hc j v hv)
  rw [hl] at hc'
  simp [Go.loadVar, h.isAgg, hp, h.size, hc']
 | false =>
  have h1 := Qmw hp h.pos
  match cs, hl.trans h1 with
  | [v], _ =>
   refine ⟨v, .inr ⟨hp, rfl⟩, ?_⟩
   have := hc 0 v rfl
   simp only [Nat.add_zero] at this
   simp [Go.loadVar, h.isAgg, hp, Go.load, Sem.run, this]
theorem TyOk.storeVar {T : TypeId} {S : Sh} {nf : Nat} (h : TyOk P X T S nf) {w : World} {b o : Nat} {v : Value} {cs : List Value} (hv : VR S v cs) (hl : cs.length = S.size) (ho : Ones cs)
  {arr : Array Value} {T0 : TypeId} (hb : w.heap[b]? = some (.cells arr T0 (0, 0))) (hfit : o + S.size <= arr.size) :
  (Go.storeVar T ⟨b, o, none⟩ v).run P w = .ok () (w.setRow b (patch arr.toList o cs).toArray) := by
 have hcells := Qcu hv ho
 have hs := run_storeCells_at P b o T0 cs 0 arr w hb (by omega) ho
 simp only [Nat.add_zero] at hs
 have hsz : v.cells.size = S.size := by rw [<- hl, <- hcells]; simp
 simp only [Go.storeVar, Sem.run_bind, h.size, Result.andThen_ok, hsz, ne_eq, not_true_eq_false, if_false]
 rw [hcells]
 simpa [patch] using hs
end
section
variable (P : Program) (X : Ctx)
def Does (o : Oper) (w : World) (st : Blks) (ρ : Nat -> Value) (φ : Nat -> Blks) (a : Act) (s : St) (r : Res) : Prop :=
 ∃ nx v w' st' ρ' φ', (execOp a.eval o).run P w = .ok nx w' /\ (nx = .value v ∨ (nx = .skip /\ v = undef)) /\
  Sim w' st' ρ' φ' X.n (a.put o.dst v) (s.app o.dst r) /\ Fr w w' st st' ρ ρ' φ φ' s (s.app o.dst r)
end
section
variable {P : Program} {X : Ctx} {w : World} {st : Blks} {ρ : Nat -> Value} {φ : Nat -> Blks} {a : Act} {s : St} {o : Oper}
theorem Qad (h : Sim w st ρ φ X.n a s) (hd : dstOk X o.dst = true) {av : AV} {v : Value} (hr : (execOp a.eval o).run P w = .ok (.value v) w)
  (hv : RV w st ρ s.hp av v) (hl : ∀ id ∈ av.ids, s.hp id ≠ .none) (c : Bool) : Does P X o w st ρ φ a s ⟨c, av, [], [], []⟩ := by
 refine ⟨_, v, w, st, ρ, φ, hr, .inl rfl, h.put o.dst v av (fun d e => ?_) hv hl, ?_⟩
 ·rw [e] at hd
  simpa [dstOk, Nat.blt_eq] using hd
 ·refine ⟨rfl, rfl, rfl, Nat.le_refl _, fun _ _ _ => rfl, fun _ h => h, fun _ h => .inl h, fun id b h => .inl ⟨id, h⟩, fun id _ hn => ⟨?_, rfl⟩⟩
  have : (s.app o.dst ⟨c, av, [], [], []⟩).hp id = s.hp id := by
   show (St.put ⟨s.env, s.hp⟩ o.dst av).hp id = _
   cases o.dst <;> rfl
  rw [this] at hn; exact hn
theorem Qap (h : Sim w st ρ φ X.n a s) (T : TypeId) (x : Operand) : RV w st ρ s.hp (rho X s.env T x) (a.eval x) := by
 cases x with
 | tmp t => exact h.env t
 | const v =>
  show RV w st ρ s.hp (constAV X T v) v
  unfold constAV
  split
  ·exact Qcj _ _
  ·exact Qb3 _
  ·exact Qfm _
  ·split
   ·exact Qa1 (av := .nilv _ _) ⟨none, rfl⟩ rfl rfl
   ·exact Qeq _
  ·exact Qeq _
 | func f => exact Qa1 (av := .fn f []) (by show _ = _; simp; rfl) rfl rfl
 | global g => exact Qeq _
theorem Qcd (h : Sim w st ρ φ X.n a s) (T : TypeId) (x : Operand) : ∀ id ∈ (rho X s.env T x).ids, s.hp id ≠ .none := by
 intro id hid
 cases x with
 | tmp t => exact h.wf t id hid
 | const v =>
  have : id ∈ (constAV X T v).ids := hid
  unfold constAV at this
  split at this <;> first | (simp [AV.ids] at this; done) | (split at this <;> simp [AV.ids] at this)
 | func f => simp [rho, opnd, AV.ids] at hid
 | global g => simp [rho, opnd, AV.ids] at hid
theorem Quw (v : Value) : Sem.run P (Pure.pure (Next.value v) : Sem Next) w = .ok (.value v) w := rfl
theorem Qlm {x : Operand} (ho : o.op = .move x ∨ o.op = .assign x) (h : Sim w st ρ φ X.n a s) (hd : dstOk X o.dst = true) :
  Does P X o w st ρ φ a s (.pure (rho X s.env o.type x)) :=
 Qad h hd (v := a.eval x) (by rcases ho with ho | ho <;> simp [execOp, ho]) (Qap h _ _) (Qcd h _ _) _
theorem Qqp {c x y : Operand} (ho : o.op = .pick c x y) (h : Sim w st ρ φ X.n a s) (hd : dstOk X o.dst = true) {t : Bool} (hc : rho X s.env 0 c = .val .bool t) :
  Does P X o w st ρ φ a s (.pure (rho X s.env o.type (bif t then x else y))) := by
 have hb := Qdd (hc ▸ Qap h 0 c)
 refine Qad h hd (v := a.eval (bif t then x else y)) ?_ (Qap h _ _) (Qcd h _ _) _
 cases t <;> simp [execOp, ho, hb, asBool]
theorem Qsm {op : BinOp} {T T' : TypeId} {x y : Operand} (ho : o.op = .binOp op T x y T') (h : Sim w st ρ φ X.n a s) (hd : dstOk X o.dst = true) {k : IntKind} {i j : Int} {r : Res}
  (hx : rho X s.env T x = .val (.int k) i) (hy : rho X s.env T y = .val (.int k) j) (hr : iop op k i j = some r) (hc : r.c = true) : Does P X o w st ρ φ a s r := by
 have ex := Qci (hx ▸ Qap h T x)
 have ey := Qci (hy ▸ Qap h T y)
 cases op <;> simp only [iop, Option.some.injEq, reduceCtorEq] at hr <;> subst hr
 case quo =>
  have hj : j ≠ 0 := by simpa [Res.when] using hc
  exact Qad h hd (v := .int k (k.wrap (i.tdiv j))) (by simp [execOp, ho, ex, ey, eqGuard, binOp, Op.intDiv, hj]) (Qcj _ _) (by simp [AV.ids]) _
 case rem =>
  have hj : j ≠ 0 := by simpa [Res.when] using hc
  exact Qad h hd (v := .int k (i.tmod j)) (by simp [execOp, ho, ex, ey, eqGuard, binOp, Op.intDiv, hj]) (Qcj _ _) (by simp [AV.ids]) _
 case add => exact Qad h hd (v := .int k (k.wrap (i + j))) (by simp [execOp, ho, ex, ey, eqGuard, binOp, Op.intArith]) (Qcj _ _) (by simp [AV.ids]) _
 case sub => exact Qad h hd (v := .int k (k.wrap (i - j))) (by simp [execOp, ho, ex, ey, eqGuard, binOp, Op.intArith]) (Qcj _ _) (by simp [AV.ids]) _
 case mul => exact Qad h hd (v := .int k (k.wrap (i * j))) (by simp [execOp, ho, ex, ey, eqGuard, binOp, Op.intArith]) (Qcj _ _) (by simp [AV.ids]) _
 case and => exact Qad h hd (v := .int k (bits .and k i j)) (by simp [execOp, ho, ex, ey, eqGuard, binOp, Op.intBits, bits]) (Qcj _ _) (by simp [AV.ids]) _
 case or => exact Qad h hd (v := .int k (bits .or k i j)) (by simp [execOp, ho, ex, ey, eqGuard, binOp, Op.intBits, bits]) (Qcj _ _) (by simp [AV.ids]) _
 case xor => exact Qad h hd (v := .int k (bits .xor k i j)) (by simp [execOp, ho, ex, ey, eqGuard, binOp, Op.intBits, bits]) (Qcj _ _) (by simp [AV.ids]) _
 case eql => exact Qad h hd (v := .bool (decide (i = j))) (by simp [execOp, ho, ex, ey, eqGuard, binOp, Op.intCmp]; rfl) (Qb3 _) (by simp [AV.ids]) _
 case neq => exact Qad h hd (v := .bool (!decide (i = j))) (by simp [execOp, ho, ex, ey, eqGuard, binOp, Op.intCmp]; rfl) (Qb3 _) (by simp [AV.ids]) _
 case lss => exact Qad h hd (v := .bool (decide (i < j))) (by simp [execOp, ho, ex, ey, eqGuard, binOp, Op.intCmp]) (Qb3 _) (by simp [AV.ids]) _
 case leq => exact Qad h hd (v := .bool (decide (i <= j))) (by simp [execOp, ho, ex, ey, eqGuard, binOp, Op.intCmp]) (Qb3 _) (by simp [AV.ids]) _
 case gtr => exact Qad h hd (v := .bool (decide (i > j))) (by simp [execOp, ho, ex, ey, eqGuard, binOp, Op.intCmp]) (Qb3 _) (by simp [AV.ids]) _
 case geq => exact Qad h hd (v := .bool (decide (i ≥ j))) (by simp [execOp, ho, ex, ey, eqGuard, binOp, Op.intCmp]) (Qb3 _) (by simp [AV.ids]) _
theorem Qji {T : TypeId} {S : Sh} {nf : Nat} (hT : TyOk P X T S nf) {cs : List Value} {o : Nat} {seg : List Value} (hs : (cs.drop o).take S.size = seg) (hl : seg.length = S.size) :
  ∃ v, VR S v seg /\ (part T cs.toArray o).run P w = .ok v w := by
 cases hp : S.isPair with
 | true =>
  refine ⟨.agg seg.toArray, .inl ⟨hp, rfl⟩, ?_⟩
  have : cs.toArray.extract o (o + S.size) = seg.toArray := by
   apply Array.ext'
   simp [<- hs]
  simp only [part, Sem.run_bind, hT.isAgg, hp, hT.size, this, Result.andThen_ok, if_true, Sem.run_pure]
 | false =>
  have h1 := Qmw hp hT.pos
  match seg, hl.trans h1 with
  | [v], _ =>
   refine ⟨v, .inr ⟨hp, rfl⟩, ?_⟩
   have : cs.toArray[o]? = some v := by
    have : ((cs.drop o).take S.size)[0]? = some v := by rw [hs]; rfl
    rw [List.getElem?_take, if_pos (by omega), List.getElem?_drop] at this
    simpa using this
   simp [part, hT.isAgg, hp, this]
theorem Qqq {T : TypeId} {S : Sh} {nf : Nat} (hT : TyOk P X T S nf) (hp : S.plain = true) : (∃ k, S = .int k /\ P.underlying T = some (.int k)) ∨ (S = .bool /\ P.underlying T = some .bool) ∨
  ∃ p q fs, S = .pair p q /\ P.underlying T = some (.struct fs) := by
 obtain ⟨d, h1, h2⟩ := hT.und
 cases S with
 | int k => cases h2; exact .inl ⟨k, rfl, h1⟩
 | bool => cases h2; exact .inr (.inl ⟨rfl, h1⟩)
 | pair p q => obtain ⟨fs, rfl, _⟩ := h2; exact .inr (.inr ⟨p, q, fs, rfl, h1⟩)
 | _ => simp [Sh.plain] at hp
theorem Qhw : ∀ {S : Sh} {p : List Bool} {s : Sh}, S.plain = true -> S.sub p = some s -> s.plain = true
 | S, [], s, hp, h => by rw [Qbc] at h; cases h; exact hp
 | .pair a b, false :: p, s, hp, h => by
  simp only [Sh.plain, Bool.and_eq_true] at hp
  exact Qhw hp.1 (by simpa [Sh.sub] using h)
 | .pair a b, true :: p, s, hp, h => by
  simp only [Sh.plain, Bool.and_eq_true] at hp
  exact Qhw hp.2 (by simpa [Sh.sub] using h)
 | .int _, _ :: _, _, _, h => by simp [Sh.sub] at h
 | .bool, _ :: _, _, _, h => by simp [Sh.sub] at h
 | .str, _ :: _, _, _, h => by simp [Sh.sub] at h
 | .sl _ _, _ :: _, _, _, h => by simp [Sh.sub] at h
 | .unit, _ :: _, _, _, h => by simp [Sh.sub] at h
theorem Qj6 : ∀ (m : Nat) (S : Sh) (x y : S.den), (∀ j, j < m -> ∃ s, S.sub (fp m j) = some s) -> 1 <= m -> S.plain = true ->
  ∀ r : Nat -> Bool, (∀ j, j < m -> ∀ s u v, getT S x (fp m j) = some ⟨s, u⟩ -> getT S y (fp m j) = some ⟨s, v⟩ -> r j = s.beq u v) ->
  S.beq x y = (List.range m).all r
 | 0, _, _, _, _, h, _, _, _ => by omega
 | 1, S, x, y, hs, _, _, r, hr => by
  have := hr 0 (by omega) S x y (by simp [fp, Qca]) (by simp [fp, Qca])
  simp [List.range_succ, this]
 | m + 2, S, x, y, hs, _, hp, r, hr => by
  obtain ⟨s0, h0⟩ := hs 0 (by omega)
  cases S with
  | pair a b =>
   simp only [Sh.plain, Bool.and_eq_true] at hp
   have ha := hr 0 (by omega) a x.1 y.1 (by simp [fp, getT, Qca]) (by simp [fp, getT, Qca])
   have hb := Qj6 (m + 1) b x.2 y.2 (fun j hj => by
     obtain ⟨s, hs'⟩ := hs (j + 1) (by omega)
     exact ⟨s, by simpa [fp, Sh.sub] using hs'⟩) (by omega) hp.2 (fun j => r (j + 1)) (fun j hj s u v hu hv =>
     hr (j + 1) (by omega) s u v (by simpa [fp, getT] using hu) (by simpa [fp, getT] using hv))
   simp only [Sh.beq, hb, <- ha]
   rw [show List.range (m + 2) = 0 :: (List.range (m + 1)).map (· + 1) from by rw [List.range_succ_eq_map]]
   simp [List.all_map]; rfl
  | _ => simp [fp, Sh.sub] at h0
theorem Qhx {d : Nat} {S : Sh} {x y : S.den} {cx cy : List Value} {nf : Nat} {fs : List Field} {r : Nat -> Bool} : ∀ (l : List Field) (k : Nat),
  (∀ j f, l[j]? = some f -> (f.name == "_") = false /\ ∃ u v, (part f.type cx.toArray f.offset).run P w = .ok u w /\ (part f.type cy.toArray f.offset).run P w = .ok v w /\
   (Op.equalIn d f.type u v).run P w = .ok (r (k + j)) w) ->
  (Op.eqFields d cx.toArray cy.toArray l).run P w = .ok ((List.range l.length).all fun j => r (k + j)) w
 | [], k, _ => by simp [Op.eqFields]
 | f :: l, k, h => by
  obtain ⟨hn, u, v, h1, h2, h3⟩ := h 0 f rfl
  have hn' : f.name ≠ "_" := by simpa using hn
  have ih := Qhx (d := d) (S := S) (x := x) (y := y) (nf := nf) (fs := fs) l (k + 1) (fun j g hg => by
   have := h (j + 1) g (by simpa using hg)
   rwa [show k + (j + 1) = k + 1 + j by omega] at this)
  rw [Op.eqFields]
  simp only [if_pos hn', Sem.run_bind, h1, h2, h3, Result.andThen_ok]
  rw [show List.range (f :: l).length = 0 :: (List.range l.length).map (· + 1) from by rw [List.length_cons, List.range_succ_eq_map]]
  simp only [List.all_cons, List.all_map, Function.comp_def, Nat.add_zero]
  have e : (fun j => r (k + (j + 1))) = fun j => r (k + 1 + j) := by funext j; congr 1; omega
  rw [e]
  simp only [Nat.add_zero] at *
  cases r k
  ·simp
  ·simpa using ih
theorem Qiu (hA : TyAll P X) : ∀ (d : Nat) {T : TypeId} {S : Sh} {nf : Nat}, X.ty T = some (S, nf) -> S.plain = true -> S.dep < d -> ∀ {x y : S.den} {cx cy : List Value} {u v : Value}, Im w st S x cx -> Im w st S y cy ->
  VR S u cx -> VR S v cy -> (Op.equalIn d T u v).run P w = .ok (S.beq x y) w
 | 0, T, S, nf, hT, hp, hd, x, y, cx, cy, u, v, hx, hy, hu, hv => by omega
 | d + 1, T, S, nf, hT, hp, hd, x, y, cx, cy, u, v, hx, hy, hu, hv => by
  have hTy := hA T S nf hT
  rcases Qqq hTy hp with ⟨k, rfl, hund⟩ | ⟨rfl, hund⟩ | ⟨p, q, fs, rfl, hund⟩
  ·cases hx; cases hy
   rcases hu with ⟨h, _⟩ | ⟨_, hu⟩
   ·cases h
   rcases hv with ⟨h, _⟩ | ⟨_, hv⟩
   ·cases h
   cases hu; cases hv
   simp [Op.equalIn, run_underlying hund, Sh.beq]; rfl
  ·cases hx; cases hy
   rcases hu with ⟨h, _⟩ | ⟨_, hu⟩
   ·cases h
   rcases hv with ⟨h, _⟩ | ⟨_, hv⟩
   ·cases h
   cases hu; cases hv
   simp [Op.equalIn, run_underlying hund, Sh.beq]
  ·rcases hu with ⟨_, rfl⟩ | ⟨h, _⟩
   rotate_left
   ·cases h
   rcases hv with ⟨_, rfl⟩ | ⟨h, _⟩
   rotate_left
   ·cases h
   obtain ⟨e1, _, e3, e4⟩ := hTy.eqv fs hund hp
   obtain ⟨d0, hd1, hd2⟩ := hTy.und
   rw [hund] at hd1; cases hd1
   obtain ⟨fs', hfs, hn, hfl⟩ := hd2
   cases hfs
   have hf : P.fieldsOf T = fs := by simp [Program.fieldsOf, hund]
   rw [run_equalIn_struct (P := P) w d T cx.toArray cy.toArray (by rw [hf]; exact hund) e1, hf]
   let r : Nat -> Bool := fun j => match getT (.pair p q) x (fp nf j), getT (.pair p q) y (fp nf j) with
    | some ⟨s, a⟩, some ⟨t, b⟩ => (match cst t s b with | some b => s.beq a b | none => false)
    | _, _ => false
   have hr : ∀ j, ∀ s a b, getT (.pair p q) x (fp nf j) = some ⟨s, a⟩ -> getT (.pair p q) y (fp nf j) = some ⟨s, b⟩ -> r j = s.beq a b := by
    intro j s a b ha hb
    simp only [r, ha, hb, Qgw]
   have hbeq := Qj6 nf (.pair p q) x y (fun j hj => by obtain ⟨f, s, m, _, h2, _⟩ := hfl j hj; exact ⟨s, h2⟩) (by omega) hp r (fun j _ s a b ha hb => hr j s a b ha hb)
   have hrun := Qhx (P := P) (w := w) (d := d) (S := .pair p q) (x := x) (y := y) (cx := cx) (cy := cy) (nf := nf) (fs := []) (r := r) fs.toList 0 (fun j f hj => by
    have hjlt : j < nf := by
     rw [<- e4]
     exact (List.getElem?_eq_some_iff.1 hj).1
    obtain ⟨f', s, m, h1, h2, h3, h4⟩ := hfl j hjlt
    have : f' = f := by
     have : fs[j]? = some f := by rw [<- Array.getElem?_toList]; exact hj
     rw [h1] at this; exact Option.some.inj this
    subst this
    refine ⟨e3 f' (List.mem_of_getElem? hj), ?_⟩
    obtain ⟨a, ha⟩ := Qen h2 x
    obtain ⟨b, hb⟩ := Qen h2 y
    have ia := Qeo hx ha
    have ib := Qeo hy hb
    obtain ⟨ua, hva, hra⟩ := Qji (P := P) (X := X) (w := w) (hA _ _ _ h4) (o := f'.offset) (cs := cx) rfl (by rw [h3]; exact Qbn ia)
    obtain ⟨ub, hvb, hrb⟩ := Qji (P := P) (X := X) (w := w) (hA _ _ _ h4) (o := f'.offset) (cs := cy) rfl (by rw [h3]; exact Qbn ib)
    refine ⟨ua, ub, hra, hrb, ?_⟩
    rw [Nat.zero_add, hr j s a b ha hb]
    have hdep := (Qk2 h2).2 (fp_ne hn.1)
    exact Qiu hA d h4 (Qhw hp h2) (by omega) ia ib (by rw [<- h3]; exact hva) (by rw [<- h3]; exact hvb))
   rw [hrun, hbeq, e4]
   simp
theorem Qeb {hp O : Nat -> Ob} {S : Sh} {u : AV} {x : S.den} {v : Value} (ht : toVal hp S u = some x) (h : RV w st ρ O u v) : ∃ cs, VR S v cs /\ RC w st ρ O u cs := by
 cases u with
 | val t y =>
  have ht' : cst t S y = some x := by cases S <;> exact ht
  obtain ⟨e, _⟩ := Qbl ht'
  subst e
  exact Qdq (S := t) (Qbb.2 rfl) (by simp) h
 | pair p q =>
  cases S with
  | pair a b =>
   rcases h with ⟨h, _⟩ | ⟨_, h⟩
   ·cases h
   ·rcases h with h | ⟨_, cs, e, h⟩ | ⟨h, _⟩
    ·cases h
    ·exact ⟨cs.toList, .inl ⟨rfl, by simp [e]⟩, h⟩
    ·cases h
  | _ => cases ht
 | nilv T e =>
  cases S with
  | sl T' e' => exact ⟨[v], .inr ⟨rfl, rfl⟩, Qao h rfl rfl (by simp)⟩
  | _ => cases ht
 | sref id ix p =>
  cases S with
  | sl T' e' => exact ⟨[v], .inr ⟨rfl, rfl⟩, Qao h rfl rfl (by simp)⟩
  | _ => cases ht
 | _ => cases S <;> cases ht
theorem Qn4 {T : TypeId} (hu : P.underlying T = some .bool) {i j : Bool} (d : Nat) : (Op.equalIn (d + 1) T (.bool i) (.bool j)).run P w = .ok (i == j) w := by
 simp [Op.equalIn, run_underlying hu]
theorem Qqr (hA : TyAll P X) {op : BinOp} {T T' : TypeId} {x y : Operand} (ho : o.op = .binOp op T x y T') (h : Sim w st ρ φ X.n a s) (hd : dstOk X o.dst = true) {r : Res}
  (hr : nilQ X op T y (rho X s.env T x) = some r) : Does P X o w st ρ φ a s r := by
 have rx := Qap h T x
 unfold nilQ at hr
 split at hr
 ·rename_i E e xs ex
  split at hr
  ·rename_i E' e' nf hT
   cases hr
   obtain ⟨d, hu, hdsc⟩ := (hA _ _ _ hT).und
   obtain ⟨rfl, _⟩ := hdsc
   rw [ex] at rx
   obtain ⟨A, cap, e1, _, e3⟩ := Qea rx
   have vx : a.eval x = .slice A xs.length cap := by simpa using e1
   refine Qad h hd (v := .bool A.isNone) ?_ (Qa1 (av := .nq _) ⟨_, rfl, fun hn => ?_⟩ rfl rfl) (by simp [AV.ids]) _
   ·have vy : a.eval (.const (.slice none 0 0)) = .slice none 0 0 := rfl
    simp [execOp, ho, vx, vy, eqGuard, Go.run_eql_slice_nil w _ _ A _ _ hu]
   ·cases xs with
    | nil => rfl
    | cons y ys =>
     obtain ⟨b, of, rfl, _⟩ := e3 (by simp)
     cases hn
  ·cases hr
 ·cases hr
theorem Qsn (hA : TyAll P X) {op : BinOp} {T T' : TypeId} {x y : Operand} (ho : o.op = .binOp op T x y T') (h : Sim w st ρ φ X.n a s) (hd : dstOk X o.dst = true) {hp : Nat -> Ob} (hle : Le hp s.hp) {r : Res}
  (hr : bop X op T (rho X s.env T x) (rho X s.env T y) hp = some r) (hc : r.c = true) : Does P X o w st ρ φ a s r := by
 have rx := Qap h T x
 have ry := Qap h T y
 unfold bop at hr
 split at hr
 ·rename_i k i k' j ex ey
  split at hr
  ·rename_i hk; subst hk
   exact Qsm ho h hd ex ey hr hc
  ·cases hr
 ·rename_i i j ex ey
  have vx := Qdd (ex ▸ rx)
  have vy := Qdd (ey ▸ ry)
  split at hr
  ·rename_i m hT
   obtain ⟨d, hu, hdd⟩ := (hA _ _ _ hT).und
   cases hdd
   have heq : (Op.equal T (.bool i) (.bool j)).run P w = .ok ((i : Bool) == j) w := Qn4 hu 9999
   split at hr
   ·cases hr
    exact Qad h hd (v := .bool (i == j)) (by simp [execOp, ho, vx, vy, eqGuard, binOp, heq]) (Qb3 _) (by simp [AV.ids]) _
   ·cases hr
    exact Qad h hd (v := .bool (!(i == j))) (by simp [execOp, ho, vx, vy, eqGuard, binOp, heq]) (Qb3 _) (by simp [AV.ids]) _
   ·cases hr
  ·cases hr
 ·rename_i i j ex ey
  have vx := Qds (ex ▸ rx)
  have vy := Qds (ey ▸ ry)
  cases op <;> simp only [sop, Option.some.injEq, reduceCtorEq] at hr <;> subst hr
  case add =>
   have hb : i.size + j.size <= BIG := by simpa [Res.when] using hc
   have hb' : ¬ (((i.size + j.size : Nat) : Int) > IntKind.i64.max) := by
    have : IntKind.i64.max = 9223372036854775807 := by decide
    unfold BIG at hb; omega
   exact Qad h hd (v := .string (i ++ j)) (by simp [execOp, ho, vx, vy, eqGuard, binOp, Op.stringOp]; simpa using hb') (Qfm _) (by simp [AV.ids]) _
  case eql => exact Qad h hd (v := .bool (i.toList == j.toList)) (by simp [execOp, ho, vx, vy, eqGuard, binOp, Op.stringOp]) (Qb3 _) (by simp [AV.ids]) _
  case neq => exact Qad h hd (v := .bool (!(i.toList == j.toList))) (by simp [execOp, ho, vx, vy, eqGuard, binOp, Op.stringOp]) (Qb3 _) (by simp [AV.ids]) _
 ·split at hr
  ·rename_i p q m hT
   cases hpl : (Sh.pair p q).plain <;> rw [hpl] at hr
   ·cases hr
   simp only [cond_true] at hr
   split at hr
   ·rename_i i j ei ej
    obtain ⟨cx, hvx, hcx⟩ := Qeb ei rx
    obtain ⟨cy, hvy, hcy⟩ := Qeb ej ry
    have ix := Im_up (st' := fun b => True) (fun _ _ => trivial) (Qcv h hle ei hcx)
    have iy := Im_up (st' := fun b => True) (fun _ _ => trivial) (Qcv h hle ej hcy)
    have hTy := hA _ _ _ hT
    have heq : (Op.equal T (a.eval x) (a.eval y)).run P w = .ok ((Sh.pair p q).beq i j) w := Qiu hA _ hT hpl hTy.dep ix iy hvx hvy
    obtain ⟨fs, hund⟩ : ∃ fs, P.underlying T = some (.struct fs) := by
     obtain ⟨d, h1, fs, rfl, _⟩ := hTy.und
     exact ⟨fs, h1⟩
    have hg := (hTy.eqv fs hund hpl).2.1
    rcases hvx with ⟨_, hvx⟩ | ⟨hh, _⟩
    rotate_left
    ·cases hh
    rcases hvy with ⟨_, hvy⟩ | ⟨hh, _⟩
    rotate_left
    ·cases hh
    rw [hvx, hvy] at heq
    split at hr
    ·cases hr
     exact Qad h hd (v := .bool ((Sh.pair p q).beq i j)) (by simp [execOp, ho, hvx, hvy, eqGuard, hg, binOp, heq]) (Qb3 _) (by simp [AV.ids]) _
    ·cases hr
     exact Qad h hd (v := .bool (!((Sh.pair p q).beq i j))) (by simp [execOp, ho, hvx, hvy, eqGuard, hg, binOp, heq]) (Qb3 _) (by simp [AV.ids]) _
    ·cases hr
   ·cases hr
  ·cases hr
theorem Qso {T : TypeId} {x : Operand} (ho : o.op = .unOp .not T x) (h : Sim w st ρ φ X.n a s) (hd : dstOk X o.dst = true) {b : Bool}
  (hx : rho X s.env 0 x = .val .bool b) : Does P X o w st ρ φ a s (.pure (.val .bool (!b))) := by
 have vx := Qdd (hx ▸ Qap h 0 x)
 exact Qad h hd (v := .bool (!b)) (by simp [execOp, ho, vx, Op.unary]) (Qb3 _) (by simp [AV.ids]) _
theorem Qsp {T : TypeId} {x : Operand} (ho : o.op = .unOp .neg T x) (h : Sim w st ρ φ X.n a s) (hd : dstOk X o.dst = true) {k : IntKind} {n : Int}
  (hx : rho X s.env 0 x = .val (.int k) n) : Does P X o w st ρ φ a s (.pure (.val (.int k) (k.wrap (0 - n)))) := by
 have vx := Qci (hx ▸ Qap h 0 x)
 exact Qad h hd (v := .int k (k.wrap (0 - n))) (by simp [execOp, ho, vx, Op.unary, Op.intArith]) (Qcj _ _) (by simp [AV.ids]) _
theorem Qml {x : Operand} (ho : o.op = .nilCheck x) (h : Sim w st ρ φ X.n a s) (hd : dstOk X o.dst = true) {id : Nat} {ix : Option Int} {p : List Bool}
  (hx : rho X s.env 0 x = .ptr id ix p) : Does P X o w st ρ φ a s (.pure (.ptr id ix p)) := by
 have rx := Qap h 0 x
 have hl := Qcd h 0 x
 rw [hx] at rx hl
 obtain ⟨b, of, hp, e⟩ := Qao rx rfl rfl (by simp)
 have e : a.eval x = .pointer (some ⟨b, of, none⟩) := by simpa using e
 exact Qad h hd (v := a.eval x) (by simp [execOp, ho, e]) rx hl _
theorem Qug {av : AV} {v : Value} (h : RC w st ρ s.hp av [v]) (ht : av.isTup = false) (ha : av.agg = false) : RV w st ρ s.hp av v := Qa1 h ht ha
theorem Sim.sref_len (h : Sim w st ρ φ X.n a s) {id : Nat} {T : TypeId} {e : Sh} {xs : List e.den} (ho : s.hp id = .arr T e xs) : ∃ A cap, ρ id = .slice A xs.length cap := by
 have hr := h.ob id
 rw [ho] at hr
 rcases hr with ⟨rfl, A, hA⟩ | ⟨b, cap, arr, F', hA, _⟩
 ·exact ⟨A, 0, by simpa using hA⟩
 ·exact ⟨_, cap, by simpa using hA⟩
theorem Qtn {t : TypeId} {ts : List TypeId} {A : Option Addr} {n c : Nat} {e : TypeId} (hu : P.underlying t = some (.slice e)) :
  (Builtin.len_ (t :: ts).toArray o.type #[.slice A n c]).run P w = .ok (.int .i64 n) w := by
 simp [Builtin.len_, run_underlying hu, goInt]
theorem Qj7 {hp : Nat -> Ob} {id : Nat} {i : Int} {p : List Bool} {T T' : TypeId} {e e' : Sh} {xs : List e.den} {ys : List e'.den} (hq : hp id = .arr T e xs)
  (hg : getT e (rdL xs i) p = some ⟨.sl T' e', ys⟩) : toVal hp (.sl T' e') (.sref id (some i) p) = some ys := by
 simp only [toVal, hq, hg]
 exact Qgw _
theorem Qn5 {hp : Nat -> Ob} (hle : Le hp s.hp) (h : Sim w st ρ φ X.n a s) {T : TypeId} {e : Sh} {u : AV} {v : Value} {r : Res} (hr : lenAV hp (.sl T e) u = some r) (hv : RV w st ρ s.hp u v) :
  ∃ A m k, v = .slice A m k /\ r = .pure (.val (.int .i64) ((m : Nat) : Int)) := by
 cases u with
 | val t y =>
  cases t with
  | sl T' e' =>
   cases hr
   obtain ⟨A, cap, e, _⟩ := Qea hv
   exact ⟨A, _, cap, by simpa using e, rfl⟩
  | _ => cases hr
 | nilv T' e' =>
  cases hr
  obtain ⟨A, e⟩ := Qao hv rfl rfl (by simp)
  exact ⟨A, 0, 0, by simpa using e, rfl⟩
 | sref id ix p =>
  simp only [lenAV] at hr
  cases hq : hp id with
  | arr T' e' xs =>
   rw [hq] at hr; simp only at hr
   cases ix with
   | none =>
    cases hr
    obtain ⟨_, _, ee, _⟩ := Qao hv rfl rfl (by simp)
    obtain ⟨A, cap, hl⟩ := h.sref_len (hle.get hq (by simp))
    exact ⟨A, _, cap, by simp at ee; rw [ee, hl], rfl⟩
   | some i =>
    simp only at hr
    cases hg : getT e' (rdL xs i) p with
    | none => rw [hg] at hr; cases hr
    | some q =>
     obtain ⟨t, y⟩ := q
     rw [hg] at hr
     cases t with
     | sl T2 e2 =>
      cases hr
      have := Qcv h hle (Qj7 hq hg) (Qao hv rfl rfl (by simp))
      obtain ⟨A, cap, ee, _⟩ := this
      exact ⟨A, _, cap, by simpa using ee, rfl⟩
     | _ => cases hr
  | iarr T' e' xs =>
   rw [hq] at hr; simp only at hr
   cases ix with
   | none =>
    cases hr
    obtain ⟨_, _, ee, _⟩ := Qao hv rfl rfl (by simp)
    have ho := h.ob id
    rw [hle.get hq (by simp)] at ho
    have ee : v = ρ id := by simpa using ee
    rcases ho with ⟨rfl, A, hA⟩ | ⟨b, cap, arr, hA, _⟩
    ·exact ⟨A, _, 0, by rw [ee, hA]; rfl, rfl⟩
    ·exact ⟨_, _, cap, by rw [ee, hA], rfl⟩
   | some i => cases hr
  | _ => rw [hq] at hr; cases hr
 | _ => cases hr
theorem Qsq (hA : TyAll P X) {c : Call} (ho : o.op = .call c) (hcal : c.callee = .builtin .len) {x : Operand} {T : TypeId} {ts : List TypeId} (ha : c.args.toList = [x]) (hts : c.argTypes.toList = T :: ts)
  (h : Sim w st ρ φ X.n a s) (hd : dstOk X o.dst = true) {hp : Nat -> Ob} (hle : Le hp s.hp) {S : Sh} {nf : Nat} (hT : X.ty T = some (S, nf)) {r : Res} (hr : lenAV hp S (rho X s.env 0 x) = some r) : Does P X o w st ρ φ a s r := by
 have rx := Qap h 0 x
 have hargs : c.args = #[x] := by rw [<- Array.toArray_toList (xs := c.args), ha]
 have hT2 : c.argTypes = (T :: ts).toArray := by rw [<- hts, Array.toArray_toList]
 obtain ⟨d, hu, hdd⟩ := (hA _ _ _ hT).und
 cases S with
 | sl E e =>
  obtain ⟨rfl, _⟩ := hdd
  obtain ⟨A, m, k, hv, rfl⟩ := Qn5 hle h hr rx
  refine Qad h hd (v := .int .i64 m) ?_ (Qcj _ _) (by simp [AV.ids]) _
  have := Qtn (P := P) (w := w) (o := o) (ts := ts) (A := A) (n := m) (c := k) hu
  simp [execOp, ho, resolve, hcal, invoke, builtin, hargs, hv, hT2] at this ⊢
  rw [this]; simp
 | str =>
  cases hdd
  cases hx : rho X s.env 0 x with
  | val t y =>
   rw [hx] at hr rx
   cases t with
   | str =>
    cases hr
    have hv := Qds rx
    refine Qad h hd (v := .int .i64 (ByteArray.size y : Nat)) ?_ (Qcj _ _) (by simp [AV.ids]) _
    simp [execOp, ho, resolve, hcal, invoke, builtin, hargs, hv, hT2, Builtin.len_, run_underlying hu, goInt]
   | _ => cases hr
  | _ => rw [hx] at hr; cases hr
 | _ => cases hr
theorem Qmm {f : FuncId} {first caps : Array Operand} (ho : o.op = .makeFunc (.func f) first caps) (hfirst : first.size = 0) (h : Sim w st ρ φ X.n a s) (hd : dstOk X o.dst = true) {l : List Nat}
  (hl : capIds (caps.toList.map fun x => rho X s.env 0 x) = some l) : Does P X o w st ρ φ a s (.pure (.fn f l)) := by
 have key : ∀ (cs : List Operand) (l : List Nat), capIds (cs.map fun x => rho X s.env 0 x) = some l -> cs.map a.eval = l.map ρ /\ ∀ id ∈ l, s.hp id ≠ .none := by
  intro cs
  induction cs with
  | nil => intro l hl; cases hl; simp
  | cons c cs ih =>
   intro l hl
   have rx := Qap h 0 c
   have lx := Qcd h 0 c
   simp only [List.map_cons] at hl
   cases hx : rho X s.env 0 c with
   | ptr id ix p =>
    rw [hx] at hl rx lx
    cases ix with
    | some _ => cases hl
    | none =>
    cases p with
    | cons _ _ => cases hl
    | nil =>
    simp only [capIds] at hl
    cases hm : capIds (cs.map fun x => rho X s.env 0 x) with
    | none => rw [hm] at hl; cases hl
    | some m =>
     rw [hm] at hl
     simp only [Option.some.injEq] at hl
     subst hl
     obtain ⟨h1, h2⟩ := ih m hm
     obtain ⟨b, of, hpt, e⟩ := Qao rx rfl rfl (by simp)
     obtain ⟨S, sub, _, hr, hs, rfl⟩ := hpt
     rw [Qba] at e
     refine ⟨by simp [h1]; simp at e; rw [e, hr], fun j hj => ?_⟩
     rcases List.mem_cons.1 hj with rfl | hj
     ·exact lx j (by simp [AV.ids])
     ·exact h2 j hj
   | _ => rw [hx] at hl; cases hl
 obtain ⟨h1, h2⟩ := key caps.toList l hl
 refine Qad h hd (v := .func (.func f) #[] (caps.map a.eval)) (by simp [execOp, ho, Instr.makeFunc, Array.eq_empty_of_size_eq_zero hfirst]) (Qa1 (av := .fn f l) ?_ rfl rfl) (fun id hid => h2 id (by simpa [AV.ids] using hid)) _
 show _ = _
 have : caps.map a.eval = (l.map ρ).toArray := by
  apply Array.ext'
  simpa using h1
 rw [this]
theorem Qj8 {hp : Nat -> Ob} : ∀ {u : AV} {vs : List Value} {i : Nat} {b : AV}, RT w st ρ hp u vs -> extractAV u i = some b -> ∃ v, vs[i]? = some v /\ RV1 w st ρ hp b v
 | .tcons p q, vs, 0, b, ⟨v, r, e, h1, h2⟩, he => by cases he; exact ⟨v, by simp [e], h1⟩
 | .tcons p q, vs, i + 1, b, ⟨v, r, e, h1, h2⟩, he => by
  obtain ⟨x, hx, hb⟩ := Qj8 h2 he
  exact ⟨x, by simp [e, hx], hb⟩
 | .tnil, _, _, _, _, he => by simp [extractAV] at he
theorem Qiv : ∀ {u : AV} {i : Nat} {b : AV} {id : Nat}, extractAV u i = some b -> id ∈ b.ids -> id ∈ u.ids
 | .tcons p q, 0, b, id, he, h => by cases he; simp [AV.ids, h]
 | .tcons p q, i + 1, b, id, he, h => by simp only [AV.ids, List.mem_append]; exact .inr (Qiv he h)
 | .tnil, _, _, _, he, _ => by simp [extractAV] at he
 | .unk, _, _, _, he, _ => by simp [extractAV] at he
 | .val _ _, _, _, _, he, _ => by simp [extractAV] at he
 | .pair _ _, _, _, _, he, _ => by simp [extractAV] at he
 | .ptr _ _ _, _, _, _, he, _ => by simp [extractAV] at he
 | .sref _ _ _, _, _, _, he, _ => by simp [extractAV] at he
 | .nilv _ _, _, _, _, he, _ => by simp [extractAV] at he
 | .iptr _ _, _, _, _, he, _ => by simp [extractAV] at he
 | .nq _, _, _, _, he, _ => by simp [extractAV] at he
 | .fn _ _, _, _, _, he, _ => by simp [extractAV] at he
def AV.okTup : AV -> Bool
 | .tcons a b => !a.isTup && b.okTup
 | .tnil => true
 | _ => true
theorem Qmx {x : Operand} {i : Nat} (ho : o.op = .extract x i) (h : Sim w st ρ φ X.n a s) (hd : dstOk X o.dst = true) {u : AV} (hu : extractAV (rho X s.env 0 x) i = some u) (ht : u.isTup = false) :
  Does P X o w st ρ φ a s (.pure u) := by
 have rx := Qap h 0 x
 rcases rx with ⟨_, vs, e, hr⟩ | ⟨hf, _⟩
 ·obtain ⟨v, hv, hb⟩ := Qj8 hr hu
  refine Qad h hd (v := v) ?_ (.inr ⟨ht, hb⟩) (fun id hid => Qcd h 0 x id (Qiv hu hid)) _
  have : vs[i]? = some v := by rw [<- Array.getElem?_toList]; exact hv
  simp [execOp, ho, Instr.extract, e, this]
 ·cases hx : rho X s.env 0 x <;> rw [hx] at hu hf <;> simp [extractAV, AV.isTup] at hu hf
end
end Go.Vm

set_option linter.unusedVariables false
set_option linter.unusedSimpArgs false
namespace Go.Vm
section
variable {P : Program} {X : Ctx} {w : World} {st : Blks} {ρ : Nat -> Value} {φ : Nat -> Blks} {a : Act} {s : St} {o : Oper} {hp : Nat -> Ob}
theorem Qbz : ∀ {S s t : Sh} {p q : List Bool}, S.sub p = some s -> s.sub q = some t -> S.sub (p ++ q) = some t /\ S.off (p ++ q) = S.off p + s.off q
 | S, s, t, [], q, h1, h2 => by rw [Qbc] at h1; cases h1; simp [Qba, h2]
 | .pair a b, s, t, false :: p, q, h1, h2 => by
  have := Qbz (S := a) (p := p) (by simpa [Sh.sub] using h1) h2
  exact ⟨by simpa [Sh.sub] using this.1, by simpa [Sh.off] using this.2⟩
 | .pair a b, s, t, true :: p, q, h1, h2 => by
  have := Qbz (S := b) (p := p) (by simpa [Sh.sub] using h1) h2
  exact ⟨by simpa [Sh.sub] using this.1, by simp only [List.cons_append, Sh.off, this.2]; omega⟩
 | .int _, _, _, _ :: _, _, h, _ => by simp [Sh.sub] at h
 | .bool, _, _, _ :: _, _, h, _ => by simp [Sh.sub] at h
 | .str, _, _, _ :: _, _, h, _ => by simp [Sh.sub] at h
 | .sl _ _, _, _, _ :: _, _, h, _ => by simp [Sh.sub] at h
 | .unit, _, _, _ :: _, _, h, _ => by simp [Sh.sub] at h
theorem Qei : ∀ {S s t : Sh} {p q : List Bool} {x : S.den} {y : s.den} {z : t.den}, getT S x p = some ⟨s, y⟩ -> getT s y q = some ⟨t, z⟩ -> getT S x (p ++ q) = some ⟨t, z⟩
 | S, s, t, [], q, x, y, z, h1, h2 => by rw [Qca] at h1; cases h1; simpa using h2
 | .pair a b, s, t, false :: p, q, x, y, z, h1, h2 => by simp only [List.cons_append, getT] at h1 ⊢; exact Qei h1 h2
 | .pair a b, s, t, true :: p, q, x, y, z, h1, h2 => by simp only [List.cons_append, getT] at h1 ⊢; exact Qei h1 h2
 | .int _, _, _, _ :: _, _, _, _, _, h, _ => by simp [getT] at h
 | .bool, _, _, _ :: _, _, _, _, _, h, _ => by simp [getT] at h
 | .str, _, _, _ :: _, _, _, _, _, h, _ => by simp [getT] at h
 | .sl _ _, _, _, _ :: _, _, _, _, _, h, _ => by simp [getT] at h
 | .unit, _, _, _ :: _, _, _, _, _, h, _ => by simp [getT] at h
theorem Qqs {id : Nat} {i : Int} {T : TypeId} {e : Sh} {xs : List e.den} {b l c : Nat} (hO : s.hp id = .arr T e xs) (hr : ρ id = .slice (some ⟨b, 0, none⟩) l c) (h0 : 0 <= i) (hi : i.toNat < xs.length) :
  ∀ {sh : Sh} {y : sh.den} {p : List Bool} {cs : List Value} {F : Blks}, getT e (rdL xs i) p = some ⟨sh, y⟩ -> Ow w sh y cs F ->
   (∀ j v, cs[j]? = some v -> w.cell? ⟨b, i.toNat * e.size + e.off p + j, none⟩ = some v) ->
   Fit s.hp sh (treeAt id i sh y p) = Fit s.hp sh (treeAt id i sh y p) /\ RC w st ρ s.hp (treeAt id i sh y p) cs := by
 intro sh
 induction sh with
 | int k => intro y p cs F hg ho hc; exact ⟨rfl, ho⟩
 | bool => intro y p cs F hg ho hc; exact ⟨rfl, ho⟩
 | str => intro y p cs F hg ho hc; exact ⟨rfl, ho⟩
 | unit => intro y p cs F hg ho hc; exact ⟨rfl, ho⟩
 | sl T' e' =>
  intro y p cs F hg ho hc
  refine ⟨rfl, ?_⟩
  have hl : cs.length = 1 := Qb9 ho
  match cs, hl with
  | [v], _ =>
   have hv := hc 0 v rfl
   simp only [Nat.add_zero] at hv
   exact ⟨b, _, v, ⟨T, e, xs, _, l, c, .inl hO, hr, h0, hi, Qcb hg, rfl⟩, fun T0 e0 xs0 h => by cases h.of_arr hO; exact ⟨T', e', Qcb hg⟩, hv, rfl, Qc2 ho v (by simp)⟩
 | pair p1 p2 ih1 ih2 =>
  intro y p cs F hg ho hc
  obtain ⟨c1, c2, F1, F2, rfl, _, _, _, h1, h2⟩ := ho
  have hs := Qcb hg
  have s1 := Qbz hs (show (Sh.pair p1 p2).sub [false] = some p1 by simp [Sh.sub, Qbc])
  have s2 := Qbz hs (show (Sh.pair p1 p2).sub [true] = some p2 by simp [Sh.sub, Qbc])
  have g1 := Qei hg (show getT (.pair p1 p2) y [false] = some ⟨p1, y.1⟩ by simp [getT, Qca])
  have g2 := Qei hg (show getT (.pair p1 p2) y [true] = some ⟨p2, y.2⟩ by simp [getT, Qca])
  refine ⟨rfl, Qb7 (ih1 g1 h1 ?_).2 (ih2 g2 h2 ?_).2⟩
  ·intro j v hv
   have := hc j v (by rw [List.getElem?_append_left (List.getElem?_eq_some_iff.1 hv).1]; exact hv)
   rw [s1.2]; simpa [Sh.off, Qba] using this
  ·intro j v hv
   have := hc (c1.length + j) v (by rw [List.getElem?_append_right (by omega)]; simpa using hv)
   rw [s2.2]
   have e1 : (Sh.pair p1 p2).off [true] = c1.length := by simp [Sh.off, Qba, Qb9 h1]
   rw [e1]; rw [<- this]; congr 2; omega
theorem Qo9 : ∀ {sh : Sh} {y : sh.den} {id : Nat} {i : Int} {p : List Bool}, (treeAt id i sh y p).agg = sh.isPair /\ (treeAt id i sh y p).isTup = false /\ treeAt id i sh y p ≠ .unk := by
 intro sh
 cases sh with
 | pair a b =>
  intro y id i p
  simp only [treeAt, mkPair]
  split <;> exact ⟨rfl, rfl, by simp⟩
 | _ => intro y id i p; exact ⟨rfl, rfl, by simp [treeAt]⟩
theorem Qpa : ∀ {sh : Sh} {y : sh.den} {id : Nat} {i : Int} {p : List Bool} {j : Nat}, j ∈ (treeAt id i sh y p).ids -> j = id := by
 intro sh
 induction sh with
 | pair a b ih1 ih2 =>
  intro y id i p j h
  rcases Qch h with h | h
  ·exact ih1 h
  ·exact ih2 h
 | sl T e => intro y id i p j h; simpa [treeAt, AV.ids] using h
 | _ => intro y id i p j h; simp [treeAt, AV.ids] at h
theorem Qqt (hA : TyAll P X) {T : TypeId} {x : Operand} (ho : o.op = .load T x) (h : Sim w st ρ φ X.n a s) (hd : dstOk X o.dst = true) (hle : Le hp s.hp) {S : Sh} {nf : Nat} (hT : X.ty T = some (S, nf))
  {r : Res} (hr : loadAV hp S (rho X s.env 0 x) = some r) : Does P X o w st ρ φ a s r := by
 have rx := Qap h 0 x
 have lx := Qcd h 0 x
 have hTy := hA _ _ _ hT
 cases hx : rho X s.env 0 x with
 | ptr id ix p =>
  rw [hx] at hr rx lx
  obtain ⟨b, of, hpt, e⟩ := Qao rx rfl rfl (by simp)
  have e : a.eval x = .pointer (some ⟨b, of, none⟩) := by simpa using e
  cases ix with
  | none =>
   simp only [loadAV] at hr
   cases hq : hp id with
   | box S' v =>
    rw [hq] at hr; simp only at hr
    split at hr
    ·rename_i hsub
     cases hg : getA v p with
     | none => rw [hg] at hr; cases hr
     | some u =>
      rw [hg] at hr; cases hr
      have hob := hle.get hq (by simp)
      have hO := h.ob id
      rw [hob] at hO
      obtain ⟨b', arr, T0, h1, h2, h3, h4, h5⟩ := hO
      obtain ⟨S2, s2, hS, hr2, hs2, rfl⟩ := hpt
      rw [hob] at hS
      rcases hS with ⟨_, hS⟩ | ⟨_, hS⟩ <;> cases hS
      rw [h1] at hr2; cases hr2
      obtain ⟨hf, hrc⟩ := Qfc h4 h5 hsub hg
      have hlen := Qcc hf hrc
      obtain ⟨v', hv', hrun⟩ := hTy.loadVar (w := w) (b := b) (o := S'.off p) hlen (fun j v hv => Qbo h3 j v hv)
      refine Qad h hd (v := v') ?_ (Qdp hf hrc hv') (fun j hj => h.wfh id j (by rw [hob]; exact Qfn hg hj)) _
      simp [execOp, ho, Instr.loadAt, Instr.sureAddr, e, hrun]
    ·cases hr
   | cbox S' y =>
    rw [hq] at hr; simp only at hr
    cases hg : getT S' y p with
    | none => rw [hg] at hr; cases hr
    | some q =>
     obtain ⟨t, z⟩ := q
     rw [hg] at hr; simp only at hr
     split at hr
     ·rename_i ht; subst ht
      cases hr
      have hob := hle.get hq (by simp)
      have hO := h.ob id
      rw [hob] at hO
      obtain ⟨b', arr, T0, fz, h1, h2, h3, h4, h5⟩ := hO
      obtain ⟨S2, s2, hS, hr2, hs2, rfl⟩ := hpt
      rw [hob] at hS
      rcases hS with ⟨_, hS⟩ | ⟨_, hS⟩ <;> cases hS
      rw [h1] at hr2; cases hr2
      have him := Qeo h4 hg
      obtain ⟨v', hv', hrun⟩ := hTy.loadVar (w := w) (b := b) (o := S'.off p) (Qbn him) (fun j v hv => Qbo h3 j v hv)
      refine Qad h hd (v := v') ?_ (Qc5 him hv') (by simp [AV.ids]) _
      simp [execOp, ho, Instr.loadAt, Instr.sureAddr, e, hrun]
     ·cases hr
   | _ => rw [hq] at hr; cases hr
  | some i =>
   simp only [loadAV] at hr
   cases hq : hp id with
   | arr T' e' xs =>
    rw [hq] at hr; simp only at hr
    cases hg : getT e' (rdL xs i) p with
    | none => rw [hg] at hr; cases hr
    | some q =>
     obtain ⟨t, z⟩ := q
     rw [hg] at hr; simp only at hr
     split at hr
     ·rename_i ht; subst ht
      cases hr
      have hob := hle.get hq (by simp)
      obtain ⟨T2, e2, xs2, s2, l, c, g1, g2, g3, g4, g5, rfl⟩ := hpt
      cases g1.of_arr hob
      obtain ⟨b', cap, arr, F1, k1, k2, k3, k4, k5, k6, k7⟩ := h.elem hob (Qde g4)
      rw [g2] at k1; cases k1
      obtain ⟨F2, hF2, hr3, _⟩ := Qgu k7 hg
      have hcells : ∀ j v, ((((arr.toList.drop (i.toNat * e'.size)).take e'.size).drop (e'.off p)).take t.size)[j]? = some v -> w.cell? ⟨b, i.toNat * e'.size + e'.off p + j, none⟩ = some v := by
       intro j v hv
       rw [List.getElem?_take] at hv
       split at hv
       ·rw [List.getElem?_drop] at hv
        have := Qbo k3 _ v hv
        rw [<- this]; congr 2; omega
       ·cases hv
      obtain ⟨v', hv', hrun⟩ := hTy.loadVar (w := w) (b := b) (o := i.toNat * e'.size + e'.off p) (Qb9 hr3) hcells
      have hrc := (Qqs (w := w) (st := st) hob g2 g3 g4 hg hr3 hcells).2
      have ha := Qo9 (sh := t) (y := z) (id := id) (i := i) (p := p)
      refine Qad h hd (v := v') ?_ ?_ (fun j hj => by rw [Qpa hj, hob]; simp) _
      ·simp [execOp, ho, Instr.loadAt, Instr.sureAddr, e, hrun]
      ·refine .inr ⟨ha.2.1, ?_⟩
       rcases hv' with ⟨hpp, hv'⟩ | ⟨hpp, hv'⟩
       ·exact .inr (.inl ⟨by rw [ha.1, hpp], _, hv', by simpa using hrc⟩)
       ·exact .inr (.inr ⟨by rw [ha.1, hpp], by rw [<- hv']; exact hrc⟩)
     ·cases hr
   | iarr T' e' xs =>
    rw [hq] at hr; simp only at hr
    cases hg : getT e' (rdL xs i) p with
    | none => rw [hg] at hr; cases hr
    | some q =>
     obtain ⟨t, z⟩ := q
     rw [hg] at hr; simp only at hr
     split at hr
     ·rename_i ht; subst ht
      cases hr
      have hob := hle.get hq (by simp)
      obtain ⟨T2, e2, xs2, s2, l, c, g1, g2, g3, g4, g5, rfl⟩ := hpt
      cases g1.of_iarr hob
      obtain ⟨b', cap, arr, k1, k2, k3, k4, k5, k6⟩ := h.ielem hob (Qde g4)
      rw [g2] at k1; cases k1
      have him := Qeo k6 hg
      have hcells : ∀ j v, ((((arr.toList.drop (i.toNat * e'.size)).take e'.size).drop (e'.off p)).take t.size)[j]? = some v -> w.cell? ⟨b, i.toNat * e'.size + e'.off p + j, none⟩ = some v := by
       intro j v hv
       rw [List.getElem?_take] at hv
       split at hv
       ·rw [List.getElem?_drop] at hv
        have := Qbo k3 _ v hv
        rw [<- this]; congr 2; omega
       ·cases hv
      obtain ⟨v', hv', hrun⟩ := hTy.loadVar (w := w) (Qbn him) hcells
      refine Qad h hd (v := v') ?_ (Qc5 him hv') (by simp [AV.ids]) _
      simp [execOp, ho, Instr.loadAt, Instr.sureAddr, e, hrun]
     ·cases hr
   | _ => rw [hq] at hr; cases hr
 | iptr t y =>
  rw [hx] at hr rx lx
  simp only [loadAV] at hr
  split at hr
  ·rename_i ht; subst ht
   cases hr
   obtain ⟨b, of, cc, e, hst, him, hc⟩ := Qao rx rfl rfl (by simp)
   have e : a.eval x = .pointer (some ⟨b, of, none⟩) := by simpa using e
   obtain ⟨v', hv', hrun⟩ := hTy.loadVar (w := w) (Qbn him) hc
   refine Qad h hd (v := v') ?_ (Qc5 him hv') (by simp [AV.ids]) _
   simp [execOp, ho, Instr.loadAt, Instr.sureAddr, e, hrun]
  ·cases hr
 | _ => rw [hx] at hr; cases hr
theorem Qk3 {f : Field} {b of : Nat} (hsz : ∃ n, 0 < n /\ (sizeOf f.type).run P w = .ok n w) : (fieldPlace ⟨b, of, none⟩ f).run P w = .ok ⟨b, of + f.offset, none⟩ w := by
 obtain ⟨n, hn, hs⟩ := hsz
 have : n ≠ 0 := by omega
 simp [fieldPlace, hs, this, Qcz]
theorem Qk4 (hA : TyAll P X) {T : TypeId} {x : Operand} {f : Nat} (ho : o.op = .fieldAddr T x f) (h : Sim w st ρ φ X.n a s) (hd : dstOk X o.dst = true) (hle : Le hp s.hp) {S : Sh} {nf : Nat} (hT : X.ty T = some (S, nf)) (hf : f < nf)
  {r : Res} (hr : (match rho X s.env 0 x with
   | .ptr id ix p => (match hp id with
    | .box S' _ => if S'.sub p = some S then some (Res.pure (.ptr id ix (p ++ fp nf f))) else none
    | .cbox S' _ => if S'.sub p = some S then some (.pure (.ptr id ix (p ++ fp nf f))) else none
    | .arr _ e _ => if e.sub p = some S then some (.pure (.ptr id ix (p ++ fp nf f))) else none
    | .iarr _ _ _ => none
    | .none => none)
   | .iptr s y => if s = S then (match getT s y (fp nf f) with
    | some ⟨t, z⟩ => some (.pure (.iptr t z))
    | none => none) else none
   | _ => none) = some r) : Does P X o w st ρ φ a s r := by
 have rx := Qap h 0 x
 have lx := Qcd h 0 x
 have hTy := hA _ _ _ hT
 obtain ⟨d, hu, hdd⟩ := hTy.und
 -- the model's fields
 obtain ⟨fs, F, sub, m, hfs, hFs, hsub, hoff, hty⟩ : ∃ (fs : Array Field) (F : Field) (sub : Sh) (m : Nat), d = .struct fs /\ fs[f]? = some F /\ S.sub (fp nf f) = some sub /\ F.offset = S.off (fp nf f) /\ X.ty F.type = some (sub, m) := by
  cases S with
  | pair p q =>
   obtain ⟨fs, rfl, _, hfl⟩ := hdd
   obtain ⟨F, sub, m, h1, h2, h3, h4⟩ := hfl f hf
   exact ⟨fs, F, sub, m, rfl, h1, h2, h3, h4⟩
  | _ => have := hTy.nfp rfl; omega
 subst hfs
 have hplace : ∀ b of, (fieldPlace ⟨b, of, none⟩ F).run P w = .ok ⟨b, of + S.off (fp nf f), none⟩ w := fun b of => by
  rw [<- hoff]; exact Qk3 ⟨_, (hA _ _ _ hty).pos, (hA _ _ _ hty).size w⟩
 cases hx : rho X s.env 0 x with
 | ptr id ix p =>
  rw [hx] at hr rx lx
  obtain ⟨b, of, hpt, e⟩ := Qao rx rfl rfl (by simp)
  have e : a.eval x = .pointer (some ⟨b, of, none⟩) := by simpa using e
  have hrun : (execOp a.eval o).run P w = .ok (.value (.pointer (some ⟨b, of + S.off (fp nf f), none⟩))) w := by
   simp [execOp, ho, Instr.fieldAt, run_underlying hu, hFs, e, Instr.sureAddr, hplace]
  simp only at hr
  cases hq : hp id with
  | none => rw [hq] at hr; cases hr
  | iarr _ _ _ => rw [hq] at hr; cases hr
  | box S' v =>
   rw [hq] at hr; simp only at hr
   split at hr
   ·rename_i hs'
    cases hr
    have hob := hle.get hq (by simp)
    refine Qad h hd hrun (Qa1 (av := .ptr id ix (p ++ fp nf f)) ⟨b, _, ?_, rfl⟩ rfl rfl) (fun j hj => lx j hj) _
    cases ix with
    | none =>
     obtain ⟨S2, s2, hS, hr2, hs2, rfl⟩ := hpt
     rw [hob] at hS
     rcases hS with ⟨_, hS⟩ | ⟨_, hS⟩ <;> cases hS
     exact ⟨S', sub, .inl ⟨v, hob⟩, hr2, (Qbz hs' hsub).1, ((Qbz hs' hsub).2).symm⟩
    | some i =>
     obtain ⟨T2, e2, xs2, s2, l, c, g1, _⟩ := hpt
     rw [hob] at g1; rcases g1 with g1 | g1 <;> cases g1
   ·cases hr
  | cbox S' v =>
   rw [hq] at hr; simp only at hr
   split at hr
   ·rename_i hs'
    cases hr
    have hob := hle.get hq (by simp)
    refine Qad h hd hrun (Qa1 (av := .ptr id ix (p ++ fp nf f)) ⟨b, _, ?_, rfl⟩ rfl rfl) (fun j hj => lx j hj) _
    cases ix with
    | none =>
     obtain ⟨S2, s2, hS, hr2, hs2, rfl⟩ := hpt
     rw [hob] at hS
     rcases hS with ⟨_, hS⟩ | ⟨_, hS⟩ <;> cases hS
     exact ⟨S', sub, .inr ⟨v, hob⟩, hr2, (Qbz hs' hsub).1, ((Qbz hs' hsub).2).symm⟩
    | some i =>
     obtain ⟨T2, e2, xs2, s2, l, c, g1, _⟩ := hpt
     rw [hob] at g1; rcases g1 with g1 | g1 <;> cases g1
   ·cases hr
  | arr T' e' xs =>
   rw [hq] at hr; simp only at hr
   split at hr
   ·rename_i hs'
    cases hr
    have hob := hle.get hq (by simp)
    refine Qad h hd hrun (Qa1 (av := .ptr id ix (p ++ fp nf f)) ⟨b, _, ?_, rfl⟩ rfl rfl) (fun j hj => lx j hj) _
    cases ix with
    | none =>
     obtain ⟨S2, s2, hS, hr2, hs2, rfl⟩ := hpt
     rw [hob] at hS
     rcases hS with ⟨_, hS⟩ | ⟨_, hS⟩ <;> cases hS
    | some i =>
     obtain ⟨T2, e2, xs2, s2, l, c, g1, g2, g3, g4, g5, rfl⟩ := hpt
     cases g1.of_arr hob
     refine ⟨T', e', xs, sub, l, c, .inl hob, g2, g3, g4, (Qbz hs' hsub).1, ?_⟩
     rw [(Qbz hs' hsub).2]; omega
   ·cases hr
 | iptr t y =>
  rw [hx] at hr rx lx
  simp only at hr
  split at hr
  ·rename_i ht; subst ht
   cases hg : getT t y (fp nf f) with
   | none => rw [hg] at hr; cases hr
   | some q =>
    obtain ⟨t', z⟩ := q
    rw [hg] at hr; cases hr
    obtain ⟨b, of, cc, e, hst, him, hc⟩ := Qao rx rfl rfl (by simp)
    have e : a.eval x = .pointer (some ⟨b, of, none⟩) := by simpa using e
    refine Qad h hd (v := .pointer (some ⟨b, of + t.off (fp nf f), none⟩)) ?_ (Qa1 (av := .iptr t' z) ⟨b, _, _, rfl, hst, Qeo him hg, fun j v hv => ?_⟩ rfl rfl) (by simp [AV.ids]) _
    ·simp [execOp, ho, Instr.fieldAt, run_underlying hu, hFs, e, Instr.sureAddr, hplace]
    ·rw [List.getElem?_take] at hv
     split at hv
     ·rw [List.getElem?_drop] at hv
      rw [<- hc _ v hv]; congr 2; omega
     ·cases hv
  ·cases hr
 | _ => rw [hx] at hr; cases hr
theorem Qjj {i : Int} {n : Nat} (h0 : 0 <= i) (h1 : i < (n : Int)) : i.toNat < n := by omega
theorem Qk5 (hA : TyAll P X) {T : TypeId} {x y : Operand} (ho : o.op = .indexAddr T x y) (h : Sim w st ρ φ X.n a s) (hd : dstOk X o.dst = true) (hle : Le hp s.hp) {E : TypeId} {el : Sh} {nf : Nat} (hT : X.ty T = some (.sl E el, nf))
  {r : Res} (hr : indexAV hp el (rho X s.env 0 x) (rho X s.env 0 y) = some r) (hc : r.c = true) : Does P X o w st ρ φ a s r := by
 have rx := Qap h 0 x
 have ry := Qap h 0 y
 have lx := Qcd h 0 x
 obtain ⟨d, hu, rfl, m, hE⟩ := (hA _ _ _ hT).und
 have hEs := (hA _ _ _ hE).size w
 unfold indexAV at hr
 cases hy : rho X s.env 0 y with
 | val t i =>
  cases t with
  | int k =>
   rw [hy] at hr ry
   have hi := Qci ry
   simp only at hr
   cases hx : rho X s.env 0 x with
   | val t xs =>
    cases t with
    | sl T' e =>
     rw [hx] at hr rx lx
     simp only at hr
     split at hr
     ·rename_i he; subst he
      cases hr
      simp only [Res.when, Bool.and_eq_true, decide_eq_true_eq] at hc
      obtain ⟨h0, h1⟩ := hc
      obtain ⟨A, cap, ee, hcap, hel⟩ := Qea rx
      have ee : a.eval x = .slice A xs.length cap := by simpa using ee
      have hlt : i.toNat < xs.length := Qjj h0 h1
      have hne : xs ≠ [] := by intro e; rw [e] at hlt; simp at hlt
      obtain ⟨b, of, rfl, hst, hcell⟩ := hel hne
      obtain ⟨cc, him, hcc⟩ := hcell i.toNat _ (Qde hlt)
      refine Qad h hd (v := .pointer (some ⟨b, of + i.toNat * e.size, none⟩)) ?_ (Qa1 (av := .iptr e (rdL xs i)) ⟨b, _, cc, rfl, hst, him, hcc⟩ rfl rfl) (by simp [AV.ids]) _
      have hlt' : i < (xs.length : Int) := h1
      simp [execOp, ho, Instr.indexAt, asIntOf, hi, run_underlying hu, ee, h0, hlt', hEs, Qcz]
     ·cases hr
    | _ => rw [hx] at hr; cases hr
   | sref id ix p =>
    rw [hx] at hr rx lx
    cases ix with
    | some j => simp at hr
    | none =>
     cases p with
     | cons _ _ => simp at hr
     | nil =>
      simp only at hr
      cases hq : hp id with
      | arr T' e xs =>
       rw [hq] at hr; simp only at hr
       split at hr
       ·rename_i he; subst he
        cases hr
        simp only [Res.when, Bool.and_eq_true, decide_eq_true_eq] at hc
        obtain ⟨h0, h1⟩ := hc
        have hob := hle.get hq (by simp)
        obtain ⟨_, _, ee, _⟩ := Qao rx rfl rfl (by simp)
        have hlt : i.toNat < xs.length := Qjj h0 h1
        obtain ⟨b, cap, arr, F1, k1, k2, k3, k4, k5, k6, k7⟩ := h.elem hob (Qde hlt)
        have ee : a.eval x = .slice (some ⟨b, 0, none⟩) xs.length cap := by rw [<- k1]; simpa using ee
        refine Qad h hd (v := .pointer (some ⟨b, i.toNat * e.size, none⟩)) ?_ (Qa1 (av := .ptr id (some i) []) ⟨b, _, ⟨T', e, xs, e, _, cap, .inl hob, k1, h0, hlt, Qbc e, by rw [Qba]; rfl⟩, rfl⟩ rfl rfl) lx _
        have hlt' : i < (xs.length : Int) := h1
        simp [execOp, ho, Instr.indexAt, asIntOf, hi, run_underlying hu, ee, h0, hlt', hEs, Qcz]
       ·cases hr
      | iarr T' e xs =>
       rw [hq] at hr; simp only at hr
       split at hr
       ·rename_i he; subst he
        cases hr
        simp only [Res.when, Bool.and_eq_true, decide_eq_true_eq] at hc
        obtain ⟨h0, h1⟩ := hc
        have hob := hle.get hq (by simp)
        obtain ⟨_, _, ee, _⟩ := Qao rx rfl rfl (by simp)
        have hlt : i.toNat < xs.length := Qjj h0 h1
        obtain ⟨b, cap, arr, k1, k2, k3, k4, k5, k6⟩ := h.ielem hob (Qde hlt)
        have ee : a.eval x = .slice (some ⟨b, 0, none⟩) xs.length cap := by rw [<- k1]; simpa using ee
        refine Qad h hd (v := .pointer (some ⟨b, i.toNat * e.size, none⟩)) ?_ (Qa1 (av := .ptr id (some i) []) ⟨b, _, ⟨T', e, xs, e, _, cap, .inr hob, k1, h0, hlt, Qbc e, by rw [Qba]; rfl⟩, rfl⟩ rfl rfl) lx _
        have hlt' : i < (xs.length : Int) := h1
        simp [execOp, ho, Instr.indexAt, asIntOf, hi, run_underlying hu, ee, h0, hlt', hEs, Qcz]
       ·cases hr
      | _ => rw [hq] at hr; cases hr
   | _ => rw [hx] at hr; cases hr
  | _ => rw [hy] at hr; cases hr
 | _ => rw [hy] at hr; cases hr
theorem Qpb (hA : TyAll P X) {T : TypeId} {x y : Operand} (ho : o.op = .index T x y) (h : Sim w st ρ φ X.n a s) (hd : dstOk X o.dst = true) {nf : Nat} (hT : X.ty T = some (.str, nf)) {z : ByteArray} {k : IntKind} {i : Int}
  (hx : rho X s.env 0 x = .val .str z) (hy : rho X s.env 0 y = .val (.int k) i) (h0 : 0 <= i) (h1 : i < ((ByteArray.size z : Nat) : Int)) (c : Bool) : Does P X o w st ρ φ a s (.when c (.val (.int .u8) (strAt z i))) := by
 have vx := Qds (hx ▸ Qap h 0 x)
 have vy := Qci (hy ▸ Qap h 0 y)
 obtain ⟨d, hu, hdd⟩ := (hA _ _ _ hT).und
 cases hdd
 have hlt : i.toNat < z.size := by omega
 have hb : z[i.toNat]? = some (z.data.toList.getD i.toNat 0) := by
  have hlt' : i.toNat < z.data.size := hlt
  rw [getElem?_pos z i.toNat hlt]
  congr 1
  show z.data[i.toNat] = _
  simp [List.getD]
  rw [getElem?_pos z.data _ hlt']; rfl
 refine Qad h hd (v := .int .u8 (strAt z i)) ?_ (Qcj _ _) (by simp [AV.ids]) _
 simp only [execOp, ho, Instr.index, vx, vy, asIntOf, run_underlying hu, Sem.run_bind, Sem.run_pure, Result.andThen_ok, if_pos h0, hb]
 rfl
theorem Qpc (hA : TyAll P X) {T : TypeId} {x : Operand} {f : Nat} (ho : o.op = .field T x f) (h : Sim w st ρ φ X.n a s) (hd : dstOk X o.dst = true) (hle : Le hp s.hp) {S : Sh} {nf : Nat} (hT : X.ty T = some (S, nf)) (hf : f < nf)
  (hfit : fits hp S (rho X s.env 0 x) = true) {u : AV} (hg : getA (rho X s.env 0 x) (fp nf f) = some u) : Does P X o w st ρ φ a s (.pure u) := by
 have rx := Qap h 0 x
 have hTy := hA _ _ _ hT
 obtain ⟨d, hu, hdd⟩ := hTy.und
 obtain ⟨fs, F, sub, m, hfs, hFs, hsub, hoff, hty⟩ : ∃ (fs : Array Field) (F : Field) (sub : Sh) (m : Nat), d = .struct fs /\ fs[f]? = some F /\ S.sub (fp nf f) = some sub /\ F.offset = S.off (fp nf f) /\ X.ty F.type = some (sub, m) := by
  cases S with
  | pair p q =>
   obtain ⟨fs, rfl, _, hfl⟩ := hdd
   obtain ⟨F, sub, m, h1, h2, h3, h4⟩ := hfl f hf
   exact ⟨fs, F, sub, m, rfl, h1, h2, h3, h4⟩
  | _ => have := hTy.nfp rfl; omega
 subst hfs
 obtain ⟨hF, hnu⟩ := Qgz hle hfit
 obtain ⟨cs, hv, hrc⟩ := Qdq hF hnu rx
 have hpair : S.isPair = true := by
  cases hpp : S.isPair with
  | true => rfl
  | false => have := hTy.nfp hpp; omega
 rcases hv with ⟨_, hv⟩ | ⟨hh, _⟩
 rotate_left
 ·rw [hpair] at hh; cases hh
 obtain ⟨hfu, hru⟩ := Qfc hF hrc hsub hg
 obtain ⟨v', hv', hrun⟩ := Qji (P := P) (X := X) (w := w) (hA _ _ _ hty) (o := F.offset) (cs := cs) rfl (by rw [hoff]; exact Qcc hfu hru)
 rw [hoff] at hv'
 refine Qad h hd (v := v') ?_ (Qdp hfu hru hv') (fun j hj => Qcd h 0 x j (Qfn hg hj)) _
 simp [execOp, ho, Instr.field, run_underlying hu, hFs, hv, asAgg, hrun]
theorem Qiw : ∀ (xs : List Int) (b : ByteArray), xs.foldl (fun r n => r.push (UInt8.ofNat n.toNat)) b = ⟨b.data ++ (xs.map fun n => UInt8.ofNat n.toNat).toArray⟩
 | [], b => by simp
 | x :: xs, b => by
  rw [List.foldl_cons, Qiw xs]
  congr 1
  apply Array.ext'
  simp [ByteArray.push]
theorem Qqu (hA : TyAll P X) {T T' : TypeId} {x : Operand} (ho : o.op = .convert T T' x) (h : Sim w st ρ φ X.n a s) (hd : dstOk X o.dst = true) (hle : Le hp s.hp) {d : Nat}
  {r : Res} (hr : convAV X hp d T T' (rho X s.env 0 x) = some r) (hsrc : ∃ q, X.ty T = some q) : Does P X o w st ρ φ a s r := by
 have rx := Qap h 0 x
 obtain ⟨⟨S0, n0⟩, hT0⟩ := hsrc
 obtain ⟨d0, hu0, hd0⟩ := (hA _ _ _ hT0).und
 unfold convAV at hr
 split at hr
 ·rename_i k m hT'
  obtain ⟨d1, hu1, hd1⟩ := (hA _ _ _ hT').und
  cases hd1
  split at hr
  ·rename_i k' i hx
   cases hr
   have vx := Qci (hx ▸ rx)
   exact Qad h hd (v := .int k (k.wrap i)) (by simp [execOp, ho, vx, convert, run_underlying hu0, run_underlying hu1, Conv.intToInt]) (Qcj _ _) (by simp [AV.ids]) _
  ·cases hr
 ·rename_i m hT'
  obtain ⟨d1, hu1, hd1⟩ := (hA _ _ _ hT').und
  cases hd1
  split at hr
  ·rename_i m2 hTs
   rw [hTs] at hT0; cases hT0
   cases hd0
   split at hr
   ·rename_i z hx
    cases hr
    have vx := Qds (hx ▸ rx)
    exact Qad h hd (v := .string z) (by simp [execOp, ho, vx, convert, run_underlying hu0, run_underlying hu1]) (Qfm _) (by simp [AV.ids]) _
   ·cases hr
  ·rename_i E m2 hTs
   rw [hTs] at hT0; cases hT0
   obtain ⟨rfl, m3, hE⟩ := hd0
   obtain ⟨dE, huE, hdE⟩ := (hA _ _ _ hE).und
   cases hdE
   -- the bytes, read
   have main : ∀ (xs : List Int) (A : Option Addr) (cap : Nat), a.eval x = .slice A xs.length cap -> (xs ≠ [] -> ∃ b of, A = some ⟨b, of, none⟩ /\ ∀ i y, xs[i]? = some y -> w.cell? ⟨b, of + i, none⟩ = some (.int .u8 y)) ->
     r = .pure (.val .str (bytesStr xs)) -> Does P X o w st ρ φ a s r := by
    intro xs A cap hv hcells hrr
    subst hrr
    refine Qad h hd (v := .string (bytesStr xs)) ?_ (Qfm _) (by simp [AV.ids]) _
    have key : (Conv.bytesToString (.slice A xs.length cap)).run P w = .ok (.string (bytesStr xs)) w := by
     cases A with
     | none =>
      have : xs = [] := by
       apply Classical.byContradiction; intro hne
       obtain ⟨b, of, e, _⟩ := hcells hne; cases e
      subst this
      simp [Conv.bytesToString, bytesStr]; rfl
     | some ad =>
      rw [run_bytesToString w ad xs.length cap xs ?_]
      ·rw [Qiw]; simp [bytesStr, show ByteArray.empty.data = #[] from rfl]
      ·have := run_loadCells_list (P := P) w ad (xs.map (Value.int .u8)) (fun j v hv => by
        rw [List.getElem?_map] at hv
        cases hx : xs[j]? with
        | none => rw [hx] at hv; cases hv
        | some y =>
         rw [hx] at hv; cases hv
         have hne : xs ≠ [] := by intro e; rw [e] at hx; simp at hx
         obtain ⟨b, of, e, hc⟩ := hcells hne
         cases e
         rw [Qcz]; exact hc j y hx)
       simpa using this
    simp [execOp, ho, hv, convert, run_underlying hu0, run_underlying hu1, run_underlying huE, key]
   split at hr
   ·rename_i E2 xs hx
    cases hr
    obtain ⟨A, cap, ee, _, hel⟩ := Qea (hx ▸ rx)
    refine main xs A cap (by simpa using ee) (fun hne => ?_) rfl
    obtain ⟨b, of, hA', _, hc⟩ := hel hne
    refine ⟨b, of, hA', fun i y hy => ?_⟩
    obtain ⟨cc, him, hcc⟩ := hc i y hy
    cases him
    have := hcc 0 _ rfl
    simpa [Sh.size] using this
   ·rename_i id hx
    cases hq : hp id with
    | arr T2 e2 xs =>
     rw [hq] at hr
     cases e2 with
     | int k2 =>
      cases k2 <;> simp only [reduceCtorEq] at hr <;> try (cases hr; done)
      cases hr
      have rx' := hx ▸ rx
      have him := Qcv h hle (S := .sl T2 (.int .u8)) (v := .sref id none []) (x := xs) (by simp only [toVal, hq]; exact Qgw _) (Qao rx' rfl rfl (by simp))
      obtain ⟨A, cap, ee, _, hel⟩ := him
      refine main xs A cap (by simpa using ee) (fun hne => ?_) rfl
      obtain ⟨b, of, hA', _, hc⟩ := hel hne
      refine ⟨b, of, hA', fun i y hy => ?_⟩
      obtain ⟨cc, him, hcc⟩ := hc i y hy
      cases him
      have := hcc 0 _ rfl
      simpa [Sh.size] using this
     | _ => cases hr
    | _ => rw [hq] at hr; cases hr
   ·cases hr
  ·cases hr
 ·cases hr
theorem Qhy {T E : TypeId} {e : Sh} {nf m : Nat} (hA : TyAll P X) (hT : X.ty T = some (.sl E e, nf)) {A : Option Addr} {len cap : Nat} (hc : len <= cap) {lo hi : Option Value} {l h : Nat}
  (hlo : lo = none /\ l = 0 ∨ ∃ k, lo = some (.int k (l : Int))) (hhi : hi = none /\ h = len ∨ ∃ k, hi = some (.int k (h : Int))) (h1 : l <= h) (h2 : h <= len) :
  (Instr.sliceAt T (.slice A len cap) lo hi none).run P w = .ok (.slice (if cap = l then A else A.map (·.add (l * e.size))) (h - l) (cap - l)) w := by
 obtain ⟨d, hu, rfl, m, hE⟩ := (hA _ _ _ hT).und
 have hs := (hA _ _ _ hE).size w
 have b1 : ∀ k c, (Instr.sliceBound (.int k (h : Int)) cap c).run P w = .ok h w := fun k c => by
  rw [run_sliceBound w k h cap c (by omega) (by omega)]; simp
 have b2 : ∀ k c, (Instr.sliceBound (.int k (l : Int)) h c).run P w = .ok l w := fun k c => by
  rw [run_sliceBound w k l h c (by omega) (by omega)]; simp
 rcases hlo with ⟨rfl, rfl⟩ | ⟨k, rfl⟩ <;> rcases hhi with ⟨rfl, rfl⟩ | ⟨k', rfl⟩ <;>
  simp [Instr.sliceAt, run_underlying hu, Instr.slice, Instr.sliceBounds, hs, b1, b2]
theorem Qjk {E : TypeId} {e : Sh} {xs : List e.den} {A : Option Addr} {cap : Nat} (h : Im w st (.sl E e) xs [.slice A xs.length cap]) {l u : Nat} (h1 : l <= u) (h2 : u <= xs.length) :
  Im w st (.sl E e) ((xs.take u).drop l) [.slice (if cap = l then A else A.map (·.add (l * e.size))) (u - l) (cap - l)] := by
 obtain ⟨A', cap', ee, hcap, hel⟩ := h
 cases ee
 have hlen : ((xs.take u).drop l).length = u - l := by simp; omega
 refine ⟨_, cap - l, by rw [hlen], by rw [hlen]; omega, fun hne => ?_⟩
 have hlt : l < u := by
  rcases Nat.lt_or_ge l u with h | h
  ·exact h
  ·exfalso; apply hne; apply List.eq_nil_of_length_eq_zero; omega
 obtain ⟨b, of, rfl, hst, hc⟩ := hel (by intro e; rw [e] at h2; simp at h2; omega)
 refine ⟨b, of + l * e.size, ?_, hst, fun i x hx => ?_⟩
 ·rw [if_neg (by omega)]; simp [Qcz]
 ·have hx' : xs[l + i]? = some x := by
   rw [List.getElem?_drop, List.getElem?_take] at hx
   split at hx
   ·exact hx
   ·cases hx
  obtain ⟨cc, h3, h4⟩ := hc (l + i) x hx'
  refine ⟨cc, h3, fun j v hv => ?_⟩
  rw [<- h4 j v hv]
  congr 2
  rw [Nat.add_mul]; omega
theorem Qg0 {T : TypeId} (hu : P.underlying T = some .string) {z : ByteArray} {lo hi : Option Value} {l h : Nat}
  (hlo : lo = none /\ l = 0 ∨ ∃ k, lo = some (.int k (l : Int))) (hhi : hi = none /\ h = z.size ∨ ∃ k, hi = some (.int k (h : Int))) (h1 : l <= h) (h2 : h <= z.size) :
  (Instr.sliceAt T (.string z) lo hi none).run P w = .ok (.string (z.extract l h)) w := by
 have b1 : ∀ k c, (Instr.sliceBound (.int k (h : Int)) z.size c).run P w = .ok h w := fun k c => by
  rw [run_sliceBound w k h z.size c (by omega) (by omega)]; simp
 have b2 : ∀ k c, (Instr.sliceBound (.int k (l : Int)) h c).run P w = .ok l w := fun k c => by
  rw [run_sliceBound w k l h c (by omega) (by omega)]; simp
 rcases hlo with ⟨rfl, rfl⟩ | ⟨k, rfl⟩ <;> rcases hhi with ⟨rfl, rfl⟩ | ⟨k', rfl⟩ <;>
  simp [Instr.sliceAt, run_underlying hu, Instr.slice, Instr.sliceBounds, b1, b2]
theorem Qdu {k : IntKind} {i : Int} (h : 0 <= i) : Value.int k i = .int k ((i.toNat : Nat) : Int) := by rw [Int.toNat_of_nonneg h]
theorem Qcf {x : Option Operand} {k : IntKind} {i : Int} (h : Sim w st ρ φ X.n a s) (hx : x.map (rho X s.env 0) = some (.val (.int k) i)) : x.map a.eval = some (.int k i) := by
 cases x with
 | none => cases hx
 | some y =>
  simp only [Option.map_some, Option.some.injEq] at hx
  simp [Qci (hx ▸ Qap h 0 y)]
theorem Qb4 {x : Option Operand} (hx : x.map (rho X s.env 0) = none) : x.map a.eval = none := by cases x <;> simp_all
theorem Qpd (hA : TyAll P X) {T : TypeId} {x : Operand} {lo hi mx : Option Operand} (ho : o.op = .slice T x lo hi mx) (h : Sim w st ρ φ X.n a s) (hd : dstOk X o.dst = true) {S : Sh} {nf : Nat} (hT : X.ty T = some (S, nf))
  {r : Res} (hr : sliceAV S (rho X s.env 0 x) (lo.map (rho X s.env 0)) (hi.map (rho X s.env 0)) (mx.map (rho X s.env 0)) = some r) (hc : r.c = true) : Does P X o w st ρ φ a s r := by
 have rx := Qap h 0 x
 obtain ⟨d, hu, hdd⟩ := (hA _ _ _ hT).und
 cases hx : rho X s.env 0 x with
 | val t xs =>
  rw [hx] at hr rx
  cases t with
  | sl E e =>
   simp only [sliceAV] at hr
   split at hr
   ·rename_i hS; subst hS
    obtain ⟨A, cap, ee, hcap, hel⟩ := Qea rx
    have ee : a.eval x = .slice A xs.length cap := by simpa using ee
    have him : Im w st (.sl E e) xs [.slice A xs.length cap] := by rw [<- ee]; exact Qea rx
    split at hr
    ·rename_i k u hlo hhi hmx
     cases hr
     simp only [Res.when, Bool.and_eq_true, decide_eq_true_eq] at hc
     have hrun := Qhy (P := P) (w := w) hA hT (A := A) hcap (lo := lo.map a.eval) (hi := hi.map a.eval) (l := 0) (h := u.toNat) (m := 0) (.inl ⟨Qb4 hlo, rfl⟩) (.inr ⟨k, by rw [Qcf h hhi, Qdu hc.1]⟩) (by omega) (Int.toNat_le.2 hc.2)
     refine Qad h hd ?_ (Qc5 (S := .sl E e) (Qjk him (Nat.zero_le u.toNat) (Int.toNat_le.2 hc.2)) (.inr ⟨rfl, rfl⟩)) (by simp [AV.ids]) _
     simp only [execOp, ho, ee, Qb4 (a := a) hmx, hrun, Sem.run_bind, Result.andThen_ok]; rfl
    ·rename_i k u hlo hhi hmx
     cases hr
     simp only [Res.when, Bool.and_eq_true, decide_eq_true_eq] at hc
     have hrun := Qhy (P := P) (w := w) hA hT (A := A) hcap (lo := lo.map a.eval) (hi := hi.map a.eval) (l := u.toNat) (h := xs.length) (m := 0) (.inr ⟨k, by rw [Qcf h hlo, Qdu hc.1]⟩) (.inl ⟨Qb4 hhi, rfl⟩) (Int.toNat_le.2 hc.2) (Nat.le_refl _)
     have := Qjk him (Int.toNat_le.2 hc.2) (Nat.le_refl xs.length)
     rw [List.take_length] at this
     refine Qad h hd ?_ (Qc5 (S := .sl E e) this (.inr ⟨rfl, rfl⟩)) (by simp [AV.ids]) _
     simp only [execOp, ho, ee, Qb4 (a := a) hmx, hrun, Sem.run_bind, Result.andThen_ok]; rfl
    ·rename_i k u k' u' hlo hhi hmx
     cases hr
     simp only [Res.when, Bool.and_eq_true, decide_eq_true_eq] at hc
     obtain ⟨⟨h0, h1⟩, h2⟩ := hc
     have hu0 : (0 : Int) <= u' := Int.le_trans h0 h1
     have hrun := Qhy (P := P) (w := w) hA hT (A := A) hcap (lo := lo.map a.eval) (hi := hi.map a.eval) (l := u.toNat) (h := u'.toNat) (m := 0) (.inr ⟨k, by rw [Qcf h hlo, Qdu h0]⟩) (.inr ⟨k', by rw [Qcf h hhi, Qdu hu0]⟩) (Int.toNat_le_toNat h1) (Int.toNat_le.2 h2)
     refine Qad h hd ?_ (Qc5 (S := .sl E e) (Qjk him (Int.toNat_le_toNat h1) (Int.toNat_le.2 h2)) (.inr ⟨rfl, rfl⟩)) (by simp [AV.ids]) _
     simp only [execOp, ho, ee, Qb4 (a := a) hmx, hrun, Sem.run_bind, Result.andThen_ok]; rfl
    ·rename_i k u k' u' hlo hhi hmx
     cases hr
     simp only [Res.when, Bool.and_eq_true, decide_eq_true_eq] at hc
     obtain ⟨h0, h1⟩ := hc
     have eh : hi.map a.eval = some (.int k 0) := by rw [Qcf h hhi]; congr 2
     have em : mx.map a.eval = some (.int k' 0) := by rw [Qcf h hmx]; congr 2
     obtain ⟨rfl, m, hE⟩ := hdd
     have hs := (hA _ _ _ hE).size w
     refine Qad h hd (v := .slice A 0 0) ?_ (Qa1 (av := .nilv E e) ⟨A, rfl⟩ rfl rfl) (by simp [AV.ids]) _
     simp [execOp, ho, ee, Qb4 (a := a) hlo, eh, em, Instr.sliceAt, run_underlying hu, Instr.slice, Instr.sliceBounds, Instr.sliceBound, asIntOf, hs]
    ·cases hr
   ·cases hr
  | str =>
   simp only [sliceAV] at hr
   split at hr
   ·rename_i hS; subst hS
    cases hdd
    have ee := Qds rx
    split at hr
    ·rename_i k u hlo hhi hmx
     cases hr
     simp only [Res.when, Bool.and_eq_true, decide_eq_true_eq] at hc
     have hrun := Qg0 (P := P) (w := w) hu (z := xs) (lo := lo.map a.eval) (hi := hi.map a.eval) (l := 0) (h := u.toNat) (.inl ⟨Qb4 hlo, rfl⟩) (.inr ⟨k, by rw [Qcf h hhi, Qdu hc.1]⟩) (by omega) (Int.toNat_le.2 hc.2)
     refine Qad h hd ?_ (Qfm _) (by simp [AV.ids]) _
     simp only [execOp, ho, ee, Qb4 (a := a) hmx, hrun, Sem.run_bind, Result.andThen_ok]; rfl
    ·rename_i k u hlo hhi hmx
     cases hr
     simp only [Res.when, Bool.and_eq_true, decide_eq_true_eq] at hc
     have hrun := Qg0 (P := P) (w := w) hu (z := xs) (lo := lo.map a.eval) (hi := hi.map a.eval) (l := u.toNat) (h := ByteArray.size xs) (.inr ⟨k, by rw [Qcf h hlo, Qdu hc.1]⟩) (.inl ⟨Qb4 hhi, rfl⟩) (Int.toNat_le.2 hc.2) (Nat.le_refl _)
     refine Qad h hd ?_ (Qfm _) (by simp [AV.ids]) _
     simp only [execOp, ho, ee, Qb4 (a := a) hmx, hrun, Sem.run_bind, Result.andThen_ok]; rfl
    ·rename_i k u k' u' hlo hhi hmx
     cases hr
     simp only [Res.when, Bool.and_eq_true, decide_eq_true_eq] at hc
     obtain ⟨⟨h0, h1⟩, h2⟩ := hc
     have hu0 : (0 : Int) <= u' := Int.le_trans h0 h1
     have hrun := Qg0 (P := P) (w := w) hu (z := xs) (lo := lo.map a.eval) (hi := hi.map a.eval) (l := u.toNat) (h := u'.toNat) (.inr ⟨k, by rw [Qcf h hlo, Qdu h0]⟩) (.inr ⟨k', by rw [Qcf h hhi, Qdu hu0]⟩) (Int.toNat_le_toNat h1) (Int.toNat_le.2 h2)
     refine Qad h hd ?_ (Qfm _) (by simp [AV.ids]) _
     simp only [execOp, ho, ee, Qb4 (a := a) hmx, hrun, Sem.run_bind, Result.andThen_ok]; rfl
    ·cases hr
   ·cases hr
  | _ => cases hr
 | nilv E e =>
  rw [hx] at hr rx
  simp only [sliceAV] at hr
  split at hr
  ·rename_i hS; subst hS
   obtain ⟨A, ee⟩ := Qao rx rfl rfl (by simp)
   have ee : a.eval x = .slice A 0 0 := by simpa using ee
   split at hr
   ·rename_i k u k' u' hlo hhi hmx
    cases hr
    simp only [Res.when, Bool.and_eq_true, decide_eq_true_eq] at hc
    obtain ⟨h0, h1⟩ := hc
    have eh : hi.map a.eval = some (.int k 0) := by rw [Qcf h hhi]; congr 2
    have em : mx.map a.eval = some (.int k' 0) := by rw [Qcf h hmx]; congr 2
    obtain ⟨rfl, m, hE⟩ := hdd
    have hs := (hA _ _ _ hE).size w
    refine Qad h hd (v := .slice A 0 0) ?_ (Qa1 (av := .nilv E e) ⟨A, rfl⟩ rfl rfl) (by simp [AV.ids]) _
    simp [execOp, ho, ee, Qb4 (a := a) hlo, eh, em, Instr.sliceAt, run_underlying hu, Instr.slice, Instr.sliceBounds, Instr.sliceBound, asIntOf, hs]
   ·cases hr
  ·cases hr
 | _ => rw [hx] at hr; cases hr
end
end Go.Vm
