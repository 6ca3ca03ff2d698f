/- A small abstract machine over the model's own Code: definitions.
   Shapes give typed pure values; a function's body is evaluated on them, callees by contracts. -/
import Derived.Orders
import Derived.RowKit
set_option linter.unusedVariables false
namespace Go.Vm

/-! ### Shapes and typed values -/
inductive Sh where
  | int (k : IntKind)
  | bool
  | str
  | sl (T : TypeId) (e : Sh)
  | pair (a b : Sh)
  | unit
  deriving DecidableEq

@[reducible] def Sh.den : Sh → Type
  | .int _ => Int
  | .bool => Bool
  | .str => ByteArray
  | .sl _ e => List e.den
  | .pair a b => a.den × b.den
  | .unit => Unit

def Sh.size : Sh → Nat
  | .pair a b => a.size + b.size
  | .unit => 0
  | _ => 1

def Sh.flat : Sh → Bool
  | .sl _ _ => false
  | .pair a b => a.flat && b.flat
  | _ => true

def Sh.zero : (s : Sh) → s.den
  | .int _ => (0 : Int)
  | .bool => false
  | .str => ByteArray.empty
  | .sl _ _ => []
  | .pair a b => (a.zero, b.zero)
  | .unit => ()

def Sh.isPair : Sh → Bool
  | .pair _ _ => true
  | _ => false

def cst (a b : Sh) (x : a.den) : Option b.den := if h : a = b then some (h ▸ x) else none
def cstL (a b : Sh) (x : List a.den) : Option (List b.den) := if h : a = b then some (h ▸ x) else none

/-- Equality of flat values of numbers and bools. -/
def Sh.beq : (s : Sh) → s.den → s.den → Bool
  | .int _, x, y => decide ((x : Int) = y)
  | .bool, x, y => (x : Bool) == y
  | .str, x, y => ByteArray.toList x == ByteArray.toList y
  | .sl _ _, _, _ => false
  | .pair a b, x, y => a.beq x.1 y.1 && b.beq x.2 y.2
  | .unit, _, _ => true

def Sh.plain : Sh → Bool
  | .int _ => true
  | .bool => true
  | .pair a b => a.plain && b.plain
  | _ => false

/-- A path to a part: false is left, true is right. -/
def Sh.sub : Sh → List Bool → Option Sh
  | s, [] => some s
  | .pair a _, false :: p => a.sub p
  | .pair _ b, true :: p => b.sub p
  | _, _ => none

def Sh.off : Sh → List Bool → Nat
  | _, [] => 0
  | .pair a _, false :: p => a.off p
  | .pair a b, true :: p => a.size + b.off p
  | _, _ => 0

/-- The path to field j of n. -/
def fp : Nat → Nat → List Bool
  | 0, _ => []
  | 1, _ => []
  | _ + 2, 0 => [false]
  | n + 2, j + 1 => true :: fp (n + 1) j

def getT : (S : Sh) → S.den → (p : List Bool) → Option ((s : Sh) × s.den)
  | S, x, [] => some ⟨S, x⟩
  | .pair a _, x, false :: p => getT a x.1 p
  | .pair _ b, x, true :: p => getT b x.2 p
  | _, _, _ => none

def setT : (S : Sh) → S.den → List Bool → (s : Sh) → s.den → Option S.den
  | S, _, [], s, y => cst s S y
  | .pair a _, x, false :: p, s, y => match setT a x.1 p s y with
    | some z => some (z, x.2)
    | none => none
  | .pair _ b, x, true :: p, s, y => match setT b x.2 p s y with
    | some z => some (x.1, z)
    | none => none
  | _, _, _, _, _ => none

def rdL {e : Sh} (xs : List e.den) (i : Int) : e.den := xs.getD i.toNat e.zero

/-! ### Abstract values, objects, states -/
inductive AV where
  | unk
  | val (s : Sh) (x : s.den)
  | pair (a b : AV)
  | ptr (id : Nat) (ix : Option Int) (p : List Bool)
  | sref (id : Nat) (ix : Option Int) (p : List Bool)
  | nilv (T : TypeId) (e : Sh)
  | iptr (s : Sh) (x : s.den)
  /-- a bool: false, unless e -/
  | nq (e : Bool)
  | fn (f : FuncId) (caps : List Nat)
  | tnil
  | tcons (a b : AV)

inductive Ob where
  | none
  | box (S : Sh) (v : AV)
  | cbox (S : Sh) (x : S.den)
  | arr (T : TypeId) (e : Sh) (xs : List e.den)

structure St where
  env : Nat → AV
  hp : Nat → Ob

def upd {α : Type} (f : Nat → α) (k : Nat) (v : α) : Nat → α := fun t => bif Nat.beq t k then v else f t
def updL {α : Type} (f : Nat → α) : List (Nat × α) → Nat → α
  | [] => f
  | x :: r => updL (upd f x.1 x.2) r

def mem : Nat → List Nat → Bool
  | _, [] => false
  | x, y :: r => Nat.beq x y || mem x r
def nodup : List Nat → Bool
  | [] => true
  | x :: r => !mem x r && nodup r
def disj : List Nat → List Nat → Bool
  | [], _ => true
  | x :: r, l => !mem x l && disj r l
def subl : List Nat → List Nat → Bool
  | [], _ => true
  | x :: r, l => mem x l && subl r l

def mkPair : AV → AV → AV
  | .val s x, .val t y => .val (.pair s t) (x, y)
  | a, b => .pair a b

def AV.isTup : AV → Bool
  | .tnil => true
  | .tcons _ _ => true
  | _ => false

def AV.ids : AV → List Nat
  | .pair a b => a.ids ++ b.ids
  | .ptr id _ _ => [id]
  | .sref id _ _ => [id]
  | .fn _ caps => caps
  | .tcons a b => a.ids ++ b.ids
  | _ => []

def Ob.ids : Ob → List Nat
  | .box _ v => v.ids
  | _ => []

def AV.scrub (D : List Nat) : AV → AV
  | .pair a b => .pair (a.scrub D) (b.scrub D)
  | .ptr id ix p => bif mem id D then .unk else .ptr id ix p
  | .sref id ix p => bif mem id D then .unk else .sref id ix p
  | .fn f caps => bif disj caps D then .fn f caps else .unk
  | .tcons a b => .tcons (a.scrub D) (b.scrub D)
  | v => v

/-- References into the elements of these arrays are forgotten. -/
def AV.killN (D : List Nat) : AV → AV
  | .pair a b => .pair (a.killN D) (b.killN D)
  | .sref id (some i) p => bif mem id D then .unk else .sref id (some i) p
  | .tcons a b => .tcons (a.killN D) (b.killN D)
  | v => v

def Ob.mapA (f : AV → AV) : Ob → Ob
  | .box S v => .box S (f v)
  | o => o

def St.mapA (f : AV → AV) (s : St) : St := ⟨fun t => f (s.env t), fun id => (s.hp id).mapA f⟩

def St.scrub (s : St) (D : List Nat) : St :=
  match D with
  | [] => s
  | _ => ⟨fun t => (s.env t).scrub D, fun id => bif mem id D then .none else (s.hp id).mapA (AV.scrub D)⟩

def St.killN (s : St) (D : List Nat) : St :=
  match D with
  | [] => s
  | _ => s.mapA (AV.killN D)

def getA : AV → List Bool → Option AV
  | v, [] => some v
  | .val (.pair a _) x, false :: p => getA (.val a x.1) p
  | .val (.pair _ b) x, true :: p => getA (.val b x.2) p
  | .pair a _, false :: p => getA a p
  | .pair _ b, true :: p => getA b p
  | _, _ => none

def setA : AV → List Bool → AV → Option AV
  | _, [], w => some w
  | .val (.pair a b) x, false :: p, w => match setA (.val a x.1) p w with
    | some u => some (mkPair u (.val b x.2))
    | none => none
  | .val (.pair a b) x, true :: p, w => match setA (.val b x.2) p w with
    | some u => some (mkPair (.val a x.1) u)
    | none => none
  | .pair a b, false :: p, w => match setA a p w with
    | some u => some (mkPair u b)
    | none => none
  | .pair a b, true :: p, w => match setA b p w with
    | some u => some (mkPair a u)
    | none => none
  | _, _, _ => none

/-- A value of a shape, as far as memory's layout goes. -/
def fits (hp : Nat → Ob) : Sh → AV → Bool
  | S, .val s _ => decide (s = S)
  | .pair a b, .pair u v => fits hp a u && fits hp b v
  | .sl T e, .nilv T' e' => decide (T = T') && decide (e = e')
  | .sl T e, .sref id none [] => match hp id with
    | .arr T' e' _ => decide (T = T') && decide (e = e')
    | _ => false
  | _, _ => false

def zeroAV : Sh → AV
  | .sl T e => .nilv T e
  | .pair a b => mkPair (zeroAV a) (zeroAV b)
  | s => .val s s.zero

/-- What a value reads as. -/
def toVal (hp : Nat → Ob) : (S : Sh) → AV → Option S.den
  | S, .val s x => cst s S x
  | .pair a b, .pair u v => match toVal hp a u, toVal hp b v with
    | some x, some y => some (x, y)
    | _, _ => none
  | .sl _ e, .nilv _ e' => if e' = e then some [] else none
  | .sl T e, .sref id ix p => match hp id with
    | .arr T' e' xs => match ix with
      | none => cst (.sl T' e') (.sl T e) xs
      | some i => match getT e' (rdL xs i) p with
        | some ⟨s, x⟩ => cst s (.sl T e) x
        | none => none
    | _ => none
  | _, _ => none

/-- What a value reads as that owns all its memory; the objects that it is made of. -/
def absorb (hp : Nat → Ob) : (S : Sh) → AV → Option (S.den × List Nat)
  | S, .val s x => bif s.flat then (match cst s S x with | some y => some (y, []) | none => none) else none
  | .pair a b, .pair u v => match absorb hp a u, absorb hp b v with
    | some (x, l), some (y, m) => some ((x, y), l ++ m)
    | _, _ => none
  | .sl _ e, .nilv _ e' => if e' = e then some ([], []) else none
  | .sl T e, .sref id none [] => match hp id with
    | .arr T' e' xs => match cst (.sl T' e') (.sl T e) xs with
      | some y => some (y, [id])
      | none => none
    | _ => none
  | _, _ => none

/-- A value that owns its memory, as an abstract value: its arrays get numbers from 'seed' on. -/
def intro : (S : Sh) → S.den → Nat → AV × List (Nat × Ob) × Nat
  | .sl T e, xs, k => (.sref k none [], [(k, .arr T e xs)], k + 10000)
  | .pair a b, x, k =>
    match intro a x.1 k with
    | (u, l, k') => match intro b x.2 k' with
      | (v, m, k'') => (mkPair u v, l ++ m, k'')
  | .int i, x, k => (.val (.int i) x, [], k)
  | .bool, x, k => (.val .bool x, [], k)
  | .str, x, k => (.val .str x, [], k)
  | .unit, x, k => (.val .unit x, [], k)

/-- The tree of references to a part of an element. -/
def treeAt (id : Nat) (i : Int) : (s : Sh) → s.den → List Bool → AV
  | .sl T e, _, p => .sref id (some i) p
  | .pair a b, x, p => mkPair (treeAt id i a x.1 (p ++ [false])) (treeAt id i b x.2 (p ++ [true]))
  | .int k, x, _ => .val (.int k) x
  | .bool, x, _ => .val .bool x
  | .str, x, _ => .val .str x
  | .unit, x, _ => .val .unit x

/-- How many slices a shape has beside each other. -/
def Sh.nsl : Sh → Nat
  | .sl _ _ => 1
  | .pair a b => a.nsl + b.nsl
  | _ => 0

/-! ### Contracts -/
/-- A result: read alone; handed over; the address of a new variable, what it leads to being read alone. -/
inductive RK where
  | imm | own | new

inductive Mode where
  /-- read, and not turned -/
  | imm (S : Sh)
  /-- handed over with all its memory -/
  | own (S : Sh)
  /-- a slice that is lent: its elements may turn -/
  | lend (T : TypeId) (e : Sh)
  /-- a variable's address; it owns its memory and may turn -/
  | pO (S : Sh)
  /-- a variable's address; it may turn, what it leads to is read alone -/
  | pI (S : Sh)
  /-- a variable's address; it is read alone -/
  | pR (S : Sh)
  /-- a function value, with the variables that it has caught, read alone -/
  | clo (f : FuncId) (ss : List Sh)
  /-- a value whose slices are lent: their elements may turn -/
  | loan (S : Sh)

def chain : List Sh → Sh
  | [] => .unit
  | s :: r => .pair s (chain r)

@[reducible] def Mode.inSh : Mode → Sh
  | .imm S => S | .own S => S | .lend T e => .sl T e | .pO S => S | .pI S => S | .pR S => S
  | .clo _ ss => chain ss
  | .loan S => S

@[reducible] def insSh : List Mode → Sh
  | [] => .unit
  | m :: r => .pair m.inSh (insSh r)

@[reducible] def backSh : List Mode → Sh
  | [] => .unit
  | .lend T e :: r => .pair (.sl T e) (backSh r)
  | .pO S :: r => .pair S (backSh r)
  | .pI S :: r => .pair S (backSh r)
  | .loan S :: r => .pair S (backSh r)
  | _ :: r => backSh r

/-- What comes back for the first of the arguments, and for the others. -/
def splitB : (m : Mode) → (ms : List Mode) → (backSh (m :: ms)).den → Option m.inSh.den × (backSh ms).den
  | .lend _ _, _, y => (some y.1, y.2)
  | .pO _, _, y => (some y.1, y.2)
  | .pI _, _, y => (some y.1, y.2)
  | .loan _, _, y => (some y.1, y.2)
  | .imm _, _, y => (none, y)
  | .own _, _, y => (none, y)
  | .pR _, _, y => (none, y)
  | .clo _ _, _, y => (none, y)

@[reducible] def outSh : List (RK × Sh) → List Mode → Sh
  | [], ms => backSh ms
  | r :: rs, ms => .pair r.2 (outSh rs ms)

structure Con where
  ps : List Mode
  rs : List (RK × Sh)
  pre : (insSh ps).den → Bool
  fn : (insSh ps).den → (outSh rs ps).den

inductive Kd where
  | asis | own | imm
  | pair (a b : Kd)

structure Keep where
  slots : List (Nat × Kd)
  boxes : List (Nat × Kd)
  arrs : List Nat

structure Ctx where
  n : Nat
  ty : TypeId → Option (Sh × Nat)
  con : FuncId → List Con
  keep : List Bool → Keep
  fz : Nat → List Nat

def Ob.isNone : Ob → Bool
  | .none => true
  | _ => false


/-! ### Operations -/
structure Res where
  c : Bool
  v : AV
  up : List (Nat × Ob)
  dr : List Nat
  nk : List Nat

def Res.pure (v : AV) : Res := ⟨true, v, [], [], []⟩
def Res.when (c : Bool) (v : AV) : Res := ⟨c, v, [], [], []⟩

/-- The bound on lengths that grow. -/
def BIG : Nat := 4294967296

def bits (op : BinOp) (k : IntKind) (x y : Int) : Int :=
  match op with
  | .and => k.wrap (BitVec.ofInt k.bits x &&& BitVec.ofInt k.bits y).toNat
  | .or => k.wrap (BitVec.ofInt k.bits x ||| BitVec.ofInt k.bits y).toNat
  | _ => k.wrap (BitVec.ofInt k.bits x ^^^ BitVec.ofInt k.bits y).toNat

def iop (op : BinOp) (k : IntKind) (x y : Int) : Option Res :=
  match op with
  | .add => some (.pure (.val (.int k) (k.wrap (x + y))))
  | .sub => some (.pure (.val (.int k) (k.wrap (x - y))))
  | .mul => some (.pure (.val (.int k) (k.wrap (x * y))))
  | .quo => some (.when (!decide (y = 0)) (.val (.int k) (k.wrap (x.tdiv y))))
  | .rem => some (.when (!decide (y = 0)) (.val (.int k) (x.tmod y)))
  | .and => some (.pure (.val (.int k) (bits .and k x y)))
  | .or => some (.pure (.val (.int k) (bits .or k x y)))
  | .xor => some (.pure (.val (.int k) (bits .xor k x y)))
  | .eql => some (.pure (.val .bool (decide (x = y))))
  | .neq => some (.pure (.val .bool (!decide (x = y))))
  | .lss => some (.pure (.val .bool (decide (x < y))))
  | .leq => some (.pure (.val .bool (decide (x ≤ y))))
  | .gtr => some (.pure (.val .bool (decide (x > y))))
  | .geq => some (.pure (.val .bool (decide (x ≥ y))))
  | _ => none

def sop (op : BinOp) (x y : ByteArray) : Option Res :=
  match op with
  | .add => some (.when (decide (x.size + y.size ≤ BIG)) (.val .str (x ++ y)))
  | .eql => some (.pure (.val .bool (x.toList == y.toList)))
  | .neq => some (.pure (.val .bool (!(x.toList == y.toList))))
  | _ => none

def bop (X : Ctx) (op : BinOp) (T : TypeId) (a b : AV) (hp : Nat → Ob) : Option Res :=
  match a, b with
  | .val (.int k) x, .val (.int k') y => if k = k' then iop op k x y else none
  | .val .bool x, .val .bool y =>
    (match X.ty T with
     | some (.bool, _) => (match op with
        | .eql => some (.pure (.val .bool ((x : Bool) == y)))
        | .neq => some (.pure (.val .bool (!((x : Bool) == y))))
        | _ => none)
     | _ => none)
  | .val .str x, .val .str y => sop op x y
  | u, v =>
    (match X.ty T with
     | some (.pair s t, _) => bif (Sh.pair s t).plain then
        (match toVal hp (.pair s t) u, toVal hp (.pair s t) v with
         | some x, some y => (match op with
            | .eql => some (.pure (.val .bool ((Sh.pair s t).beq x y)))
            | .neq => some (.pure (.val .bool (!((Sh.pair s t).beq x y))))
            | _ => none)
         | _, _ => none)
        else none
     | _ => none)

/-- Is a slice nil? It is not, unless it is empty. -/
def nilQ (X : Ctx) (op : BinOp) (T : TypeId) (y : Operand) (a : AV) : Option Res :=
  match op, y, a with
  | .eql, .const (.slice none 0 0), .val (.sl _ _) xs => (match X.ty T with
    | some (.sl _ _, _) => some (.pure (.nq (List.isEmpty xs)))
    | _ => none)
  | _, _, _ => none

def lenAV (hp : Nat → Ob) : Sh → AV → Option Res
  | .sl _ _, .val (.sl _ _) xs => some (.pure (.val (.int .i64) (xs.length : Int)))
  | .str, .val .str s => some (.pure (.val (.int .i64) ((ByteArray.size s : Nat) : Int)))
  | .sl _ _, .nilv _ _ => some (.pure (.val (.int .i64) (0 : Int)))
  | .sl _ _, .sref id ix p => match hp id with
    | .arr _ e xs => match ix with
      | none => some (.pure (.val (.int .i64) (xs.length : Int)))
      | some i => match getT e (rdL xs i) p with
        | some ⟨.sl _ _, ys⟩ => some (.pure (.val (.int .i64) (ys.length : Int)))
        | _ => none
    | _ => none
  | _, _ => none

def strAt (s : ByteArray) (i : Int) : Int := ((s.data.toList.getD i.toNat 0).toNat : Int)
def bytesStr (xs : List Int) : ByteArray := ⟨(xs.map fun n => UInt8.ofNat n.toNat).toArray⟩

def indexAV (hp : Nat → Ob) (el : Sh) (x i : AV) : Option Res :=
  match i with
  | .val (.int _) i => (match x with
    | .val (.sl _ e) xs => if e = el then some (.when (decide ((0 : Int) ≤ i) && decide (i < (xs.length : Int))) (.iptr e (rdL xs i))) else none
    | .sref id none [] => (match hp id with
      | .arr _ e xs => if e = el then some (.when (decide ((0 : Int) ≤ i) && decide (i < (xs.length : Int))) (.ptr id (some i) [])) else none
      | _ => none)
    | _ => none)
  | _ => none

def loadAV (hp : Nat → Ob) (T : Sh) : AV → Option Res
  | .ptr id none p => (match hp id with
    | .box S v => if S.sub p = some T then (match getA v p with
      | some u => some (.pure u)
      | none => none) else none
    | .cbox S x => (match getT S x p with
      | some ⟨s, y⟩ => if s = T then some (.pure (.val s y)) else none
      | none => none)
    | _ => none)
  | .ptr id (some i) p => (match hp id with
    | .arr _ e xs => (match getT e (rdL xs i) p with
      | some ⟨s, y⟩ => if s = T then some (.pure (treeAt id i s y p)) else none
      | none => none)
    | _ => none)
  | .iptr s x => if s = T then some (.pure (.val s x)) else none
  | _ => none

def storeAV (hp : Nat → Ob) (s : Sh) (a v : AV) : Option Res :=
  match a with
  | .ptr id none p => (match hp id with
    | .box S u => if S.sub p = some s then (bif fits hp s v then (match setA u p v with
          | some w => some ⟨true, .unk, [(id, .box S w)], [], []⟩
          | none => none) else none) else none
    | _ => none)
  | .ptr id (some i) p => (match hp id with
    | .arr T e xs => if e.sub p = some s then (match absorb hp s v with
        | some (y, D) => (match setT e (rdL xs i) p s y with
          | some z => bif nodup (id :: D) then
              some ⟨true, .unk, [(id, .arr T e (xs.set i.toNat z))], D, bif s.flat then [] else [id]⟩ else none
          | none => none)
        | none => none) else none
    | _ => none)
  | _ => none

/-- What an append goes on from: it is taken up. -/
def appLeft (hp : Nat → Ob) (T : TypeId) (e : Sh) : AV → Option (List e.den × List Nat)
  | .nilv _ e' => if e' = e then some ([], []) else none
  | .sref id none [] => (match hp id with
    | .arr T' e' xs => (match cst (.sl T' e') (.sl T e) xs with
      | some y => some (y, [id])
      | none => none)
    | _ => none)
  | _ => none

/-- What is appended: read, where it is flat; taken up, else. -/
def appRight (hp : Nat → Ob) (T : TypeId) (e : Sh) (v : AV) : Option (List e.den × List Nat) :=
  bif e.flat then (match toVal hp (.sl T e) v with
    | some ys => some (ys, [])
    | none => none)
  else absorb hp (.sl T e) v

def appendAV (hp : Nat → Ob) (d : Nat) (T : TypeId) (e : Sh) (a b : AV) : Option Res :=
  match appLeft hp T e a, appRight hp T e b with
  | some (xs, l), some (ys, m) => bif nodup (l ++ m) && (hp d).isNone then
      some ⟨decide (xs.length + ys.length ≤ BIG), .sref d none [], [(d, .arr T e (xs ++ ys))], l ++ m, []⟩ else none
  | _, _ => none

/-- The parts of a slice literal, in order; missing ones are nothing. -/
def litPart {α : Type} (f : AV → Option (α × List Nat)) (z : α) (parts : List (Nat × AV)) (i : Nat) : Option (α × List Nat) :=
  match parts.find? (fun q => Nat.beq q.1 i) with
  | some q => f q.2
  | none => some (z, [])

def litL {α : Type} (f : AV → Option (α × List Nat)) (z : α) (parts : List (Nat × AV)) : Nat → Nat → Option (List α × List Nat)
  | 0, _ => some ([], [])
  | n + 1, i =>
    match litPart f z parts i with
    | some (x, l) => (match litL f z parts n (i + 1) with
      | some (xs, m) => some (x :: xs, l ++ m)
      | none => none)
    | none => none

def immF (hp : Nat → Ob) (e : Sh) (v : AV) : Option (e.den × List Nat) :=
  match v.ids with
  | [] => (match toVal hp e v with | some x => some (x, []) | none => none)
  | _ => none

def partsSeq (parts : List (Nat × AV)) (n sz : Nat) : Bool := parts.all (fun q => Nat.blt q.1 n) && nodup (parts.map (·.1)) && Nat.ble (n * sz) 16777216

def buildSliceAV (hp : Nat → Ob) (d : Nat) (T : TypeId) (e : Sh) (n : Nat) (parts : List (Nat × AV)) : Option Res :=
  bif partsSeq parts n e.size then
    (match litL (fun v => absorb hp e v) e.zero parts n 0 with
     | some (xs, l) => bif nodup l && (hp d).isNone then some ⟨true, .sref d none [], [(d, .arr T e xs)], l, []⟩ else none
     | none => (match litL (immF hp e) e.zero parts n 0 with
        | some (xs, _) => some (.pure (.val (.sl T e) xs))
        | none => none))
  else none

def buildAV (hp : Nat → Ob) (S : Sh) (nf : Nat) : List (Nat × AV) → AV → Option AV
  | [], v => some v
  | (j, a) :: r, v =>
    match S.sub (fp nf j) with
    | some s => bif fits hp s a && Nat.blt j nf then (match setA v (fp nf j) a with
        | some w => buildAV hp S nf r w
        | none => none) else none
    | none => none

def takeI {α : Type} (xs : List α) (i : Int) : List α := xs.take i.toNat
def dropI {α : Type} (xs : List α) (i : Int) : List α := xs.drop i.toNat

def sliceAV (S : Sh) (x : AV) (lo hi mx : Option AV) : Option Res :=
  match x with
  | .val (.sl T e) xs => if Sh.sl T e = S then (match lo, hi, mx with
    | none, some (.val (.int _) h), none => some (.when (decide ((0 : Int) ≤ h) && decide (h ≤ (xs.length : Int))) (.val (.sl T e) (takeI xs h)))
    | some (.val (.int _) l), none, none => some (.when (decide ((0 : Int) ≤ l) && decide (l ≤ (xs.length : Int))) (.val (.sl T e) (dropI xs l)))
    | some (.val (.int _) l), some (.val (.int _) h), none =>
      some (.when (decide ((0 : Int) ≤ l) && decide (l ≤ h) && decide (h ≤ (xs.length : Int))) (.val (.sl T e) (dropI (takeI xs h) l)))
    | none, some (.val (.int _) h), some (.val (.int _) m) => some (.when (decide (h = 0) && decide (m = 0)) (.nilv T e))
    | _, _, _ => none) else none
  | .nilv T e => if Sh.sl T e = S then (match lo, hi, mx with
    | none, some (.val (.int _) h), some (.val (.int _) m) => some (.when (decide (h = 0) && decide (m = 0)) (.nilv T e))
    | _, _, _ => none) else none
  | .val .str s => if Sh.str = S then (match lo, hi, mx with
    | none, some (.val (.int _) h), none => some (.when (decide ((0 : Int) ≤ h) && decide (h ≤ ((ByteArray.size s : Nat) : Int))) (.val .str (ByteArray.extract s 0 h.toNat)))
    | some (.val (.int _) l), none, none => some (.when (decide ((0 : Int) ≤ l) && decide (l ≤ ((ByteArray.size s : Nat) : Int))) (.val .str (ByteArray.extract s l.toNat (ByteArray.size s))))
    | some (.val (.int _) l), some (.val (.int _) h), none =>
      some (.when (decide ((0 : Int) ≤ l) && decide (l ≤ h) && decide (h ≤ ((ByteArray.size s : Nat) : Int))) (.val .str (ByteArray.extract s l.toNat h.toNat)))
    | _, _, _ => none) else none
  | _ => none

def convAV (X : Ctx) (hp : Nat → Ob) (d : Nat) (src dst : TypeId) (x : AV) : Option Res :=
  match X.ty dst with
  | some (.int k, _) => (match x with
    | .val (.int _) n => some (.pure (.val (.int k) (k.wrap n)))
    | _ => none)
  | some (.str, _) => (match X.ty src with
    | some (.str, _) => (match x with
      | .val .str s => some (.pure (.val .str s))
      | _ => none)
    | some (.sl _ (.int .u8), _) => (match x with
      | .val (.sl _ (.int .u8)) xs => some (.pure (.val .str (bytesStr xs)))
      | .sref id none [] => (match hp id with
        | .arr _ (.int .u8) xs => some (.pure (.val .str (bytesStr xs)))
        | _ => none)
      | _ => none)
    | _ => none)
  | _ => none

def extractAV : AV → Nat → Option AV
  | .tcons a _, 0 => some a
  | .tcons _ b, i + 1 => extractAV b i
  | _, _ => none

/-! ### Calls -/
def capsVal (hp : Nat → Ob) : (ss : List Sh) → List Nat → Option (chain ss).den
  | [], [] => some ()
  | s :: r, id :: ids =>
    match (match hp id with
      | .box S v => if S = s then toVal hp s v else none
      | .cbox S x => cst S s x
      | _ => none), capsVal hp r ids with
    | some x, some y => some (x, y)
    | _, _ => none
  | _, _ => none

/-- What is handed to a callee: the value; the objects handed over; the ones that it may turn; the ones that it reads. -/
def gatherA (hp : Nat → Ob) : (m : Mode) → AV → Option (m.inSh.den × List Nat × List Nat × List Nat)
  | .imm S, a => (match toVal hp S a with
    | some x => some (x, [], [], a.ids)
    | none => none)
  | .own S, a => (match absorb hp S a with
    | some (x, D) => some (x, D, D, [])
    | none => none)
  | .loan S, a => (match absorb hp S a with
    | some (x, D) => some (x, [], D, [])
    | none => none)
  | .lend T e, .nilv _ e' => if e' = e then some ([], [], [], []) else none
  | .lend T e, .sref id none [] => (match hp id with
    | .arr T' e' xs => (match cst (.sl T' e') (.sl T e) xs with
      | some x => some (x, [], [id], [])
      | none => none)
    | _ => none)
  | .lend T e, .sref id (some i) p => (match hp id with
    | .arr _ e' xs => (match getT e' (rdL xs i) p with
      | some ⟨s, y⟩ => (match cst s (.sl T e) y with
        | some x => some (x, [], [id], [])
        | none => none)
      | none => none)
    | _ => none)
  | .pO S, .ptr id none [] => (match hp id with
    | .box S' v => if S' = S then (match absorb hp S v with
      | some (x, D) => some (x, D, id :: D, [])
      | none => none) else none
    | _ => none)
  | .pI S, .ptr id none [] => (match hp id with
    | .box S' (.val s x) => if S' = S then (match cst s S x with
      | some y => some (y, [], [id], [])
      | none => none) else none
    | _ => none)
  | .pR S, .ptr id none [] => (match capsVal hp [S] [id] with
    | some x => some (x.1, [], [], id :: (hp id).ids)
    | none => none)
  | .clo f ss, .fn f' caps => bif Nat.beq f f' then (match capsVal hp ss caps with
      | some x => some (x, [], [], caps ++ caps.flatMap (fun id => (hp id).ids))
      | none => none) else none
  | _, _ => none

def gather (hp : Nat → Ob) : (ms : List Mode) → List AV → Option ((insSh ms).den × List Nat × List Nat × List Nat)
  | [], [] => some ((), [], [], [])
  | m :: ms, a :: as =>
    match gatherA hp m a, gather hp ms as with
    | some (x, d, w, r), some (xs, ds, ws, rs) => some ((x, xs), d ++ ds, w ++ ws, r ++ rs)
    | _, _ => none
  | _, _ => none

/-- These lead to no memory of the caller's own. -/
def onlyC (hp : Nat → Ob) (rd : List Nat) : Bool := rd.all fun id => match hp id with | .cbox _ _ => true | _ => false

/-- The results of a call. -/
def resAV : (rs : List (RK × Sh)) → (ms : List Mode) → (outSh rs ms).den → Nat → List AV × List (Nat × Ob) × Nat × (backSh ms).den
  | [], _, y, k => ([], [], k, y)
  | (.new, S) :: rs, ms, y, k =>
    match resAV rs ms y.2 (k + 10000) with
    | (vs, m, k'', b) => (.ptr k none [] :: vs, (k, .box S (.val S y.1)) :: m, k'', b)
  | (.own, S) :: rs, ms, y, k =>
    match intro S y.1 k with
    | (v, l, k') => (match resAV rs ms y.2 k' with
      | (vs, m, k'', b) => (v :: vs, l ++ m, k'', b))
  | (.imm, S) :: rs, ms, y, k =>
    match resAV rs ms y.2 k with
    | (vs, m, k'', b) => (.val S y.1 :: vs, m, k'', b)

/-- The slices of a value that was lent, as they are now. -/
def loanBack : (S : Sh) → AV → S.den → Option (List (Nat × Ob))
  | .pair a b, .pair u v, z => (match loanBack a u z.1, loanBack b v z.2 with
    | some t, some t' => some (t ++ t')
    | _, _ => none)
  | .sl T e, .sref id none [], z => some [(id, .arr T e z)]
  | _, .nilv _ _, _ => some []
  | _, .val _ _, _ => some []
  | _, _, _ => none

/-- What is lent comes back into its places: what is turned; what is new. -/
def backA (hp : Nat → Ob) : (m : Mode) → AV → Option m.inSh.den → Nat → Option (List (Nat × Ob) × List (Nat × Ob) × Nat)
  | .lend _ _, .nilv _ _, some _, k => some ([], [], k)
  | .lend T e, .sref id none [], some y, k => some ([(id, .arr T e y)], [], k)
  | .lend T e, .sref id (some i) p, some y, k => (match hp id with
    | .arr T' e' xs => (match setT e' (rdL xs i) p (.sl T e) y with
      | some z => some ([(id, .arr T' e' (xs.set i.toNat z))], [], k)
      | none => none)
    | _ => none)
  | .pO S, .ptr id none [], some y, k => (match intro S y k with
    | (v, l, k') => some ([(id, .box S v)], l, k'))
  | .pI S, .ptr id none [], some y, k => some ([(id, .box S (.val S y))], [], k)
  | .loan S, a, some y, k => (match loanBack S a y with
    | some t => some (t, [], k)
    | none => none)
  | .imm _, _, _, k => some ([], [], k)
  | .own _, _, _, k => some ([], [], k)
  | .pR _, _, _, k => some ([], [], k)
  | .clo _ _, _, _, k => some ([], [], k)
  | _, _, _, _ => none

def backAV (hp : Nat → Ob) : (ms : List Mode) → List AV → (backSh ms).den → Nat → Option (List (Nat × Ob) × List (Nat × Ob))
  | [], _, _, _ => some ([], [])
  | m :: ms, a :: as, y, k =>
    match splitB m ms y with
    | (z, y') => (match backA hp m a z k with
      | some (t, l, k') => (match backAV hp ms as y' k' with
        | some (t', l') => some (t ++ t', l ++ l')
        | none => none)
      | none => none)
  | _ :: _, [], _, _ => none

def tupAV : List AV → AV
  | [] => .tnil
  | a :: r => .tcons a (tupAV r)
def resultAV : List AV → AV
  | [a] => a
  | l => tupAV l

def immRes : List (RK × Sh) → Bool
  | [] => false
  | (.own, _) :: r => immRes r
  | (_, S) :: r => !S.flat || immRes r

def immBack : List Mode → Bool
  | [] => false
  | .pI S :: r => !S.flat || immBack r
  | _ :: r => immBack r

def allNone (hp : Nat → Ob) (l : List (Nat × Ob)) : Bool := l.all fun q => (hp q.1).isNone

/-- References into elements are forgotten for arrays alone. -/
def nkOf (hp : Nat → Ob) : List Nat → List Nat
  | [] => []
  | id :: r => match hp id with
    | .box _ _ => nkOf hp r
    | _ => id :: nkOf hp r

def callBy (hp : Nat → Ob) (d : Nat) (c : Con) (as : List AV) : Option Res :=
  match gather hp c.ps as with
  | none => none
  | some (x, dr, wr, rd) =>
    bif nodup wr && disj wr rd && (!(immRes c.rs || immBack c.ps) || onlyC hp rd) then
      (match resAV c.rs c.ps (c.fn x) (d + 10000) with
       | (vs, l, k, b) => (match backAV hp c.ps as b k with
         | some (t, nw) => bif allNone hp (l ++ nw) then some ⟨c.pre x, resultAV vs, l ++ (t ++ nw), dr, nkOf hp wr⟩ else none
         | none => none))
    else none

def callCons (hp : Nat → Ob) (d : Nat) (as : List AV) : List Con → Option Res
  | [] => none
  | c :: r => match callBy hp d c as with
    | some x => some x
    | none => callCons hp d as r

/-! ### One operation -/
def constAV (X : Ctx) (T : TypeId) : Value → AV
  | .int k n => .val (.int k) n
  | .bool b => .val .bool b
  | .string s => .val .str s
  | .slice none 0 0 => match X.ty T with
    | some (.sl T' e, _) => .nilv T' e
    | _ => .unk
  | _ => .unk

def opnd (X : Ctx) (env : Nat → AV) (T : TypeId) : Operand → AV
  | .tmp t => env t
  | .const v => constAV X T v
  | .func f => .fn f []
  | .global _ => .unk

def oneI : AV → Option Int
  | .val (.int _) n => some n
  | _ => none

def capIds : List AV → Option (List Nat)
  | [] => some []
  | .ptr id none [] :: r => (match capIds r with
    | some l => some (id :: l)
    | none => none)
  | _ => none

def makeFuncAV (fn : Fn) (n : Nat) (vs : List AV) : Option Res :=
  match fn, n with
  | .func f, 0 => (match capIds vs with
    | some l => some (.pure (.fn f l))
    | none => none)
  | _, _ => none

def core (X : Ctx) (o : Oper) (ρ : TypeId → Operand → AV) (hp : Nat → Ob) : Option Res :=
  let d := o.dst.getD 0
  match o.op with
  | .move x => some (.pure (ρ o.type x))
  | .assign x => some (.pure (ρ o.type x))
  | .pick c a b => (match ρ 0 c with
    | .val .bool t => bif t then some (.pure (ρ o.type a)) else some (.pure (ρ o.type b))
    | _ => none)
  | .alloc T => (match X.ty T, o.dst with
    | some (S, _), some d => bif (hp d).isNone then some ⟨true, .ptr d none [], [(d, .box S (zeroAV S))], [], []⟩ else none
    | _, _ => none)
  | .box T x => (match X.ty T, o.dst with
    | some (S, _), some d => bif fits hp S (ρ T x) && (hp d).isNone then some ⟨true, .ptr d none [], [(d, .box S (ρ T x))], [], []⟩ else none
    | _, _ => none)
  | .build T parts => (match X.ty T with
    | some (.pair p q, nf) => (match buildAV hp (.pair p q) nf (parts.toList.map fun q => (q.1, ρ 0 q.2)) (zeroAV (.pair p q)) with
      | some v => some (.pure v)
      | none => none)
    | _ => none)
  | .buildSlice T n parts => (match X.ty T, o.dst with
    | some (.sl E e, _), some d => buildSliceAV hp d E e n (parts.toList.map fun q => (q.1, ρ 0 q.2))
    | _, _ => none)
  | .load T a => (match X.ty T with
    | some (S, _) => loadAV hp S (ρ 0 a)
    | none => none)
  | .store T a x => (match X.ty T with
    | some (S, _) => storeAV hp S (ρ 0 a) (ρ T x)
    | none => none)
  | .nilCheck x => (match ρ 0 x with
    | .ptr id ix p => some (.pure (.ptr id ix p))
    | _ => none)
  | .binOp op T x y _ => (match nilQ X op T y (ρ T x) with
    | some r => some r
    | none => bop X op T (ρ T x) (ρ T y) hp)
  | .unOp op _ x => (match op, ρ 0 x with
    | .not, .val .bool b => some (.pure (.val .bool (!b)))
    | .neg, .val (.int k) n => some (.pure (.val (.int k) (k.wrap (0 - n))))
    | _, _ => none)
  | .convert src dst x => (match X.ty src with
    | some _ => convAV X hp d src dst (ρ 0 x)
    | none => none)
  | .makeFunc fn first caps => makeFuncAV fn first.size (caps.toList.map fun x => ρ 0 x)
  | .makeSlice T l c => (match X.ty T, o.dst with
    | some (.sl E e, _), some d => (match oneI (ρ 0 l), oneI (ρ 0 c) with
      | some n, some m => bif (hp d).isNone then some ⟨decide ((0 : Int) ≤ n) && decide (n ≤ (BIG : Int)) && decide (m = n), .sref d none [], [(d, .arr E e (List.replicate n.toNat e.zero))], [], []⟩ else none
      | _, _ => none)
    | _, _ => none)
  | .slice T x lo hi mx => (match X.ty T with
    | some (S, _) => sliceAV S (ρ 0 x) (lo.map (ρ 0)) (hi.map (ρ 0)) (mx.map (ρ 0))
    | none => none)
  | .fieldAddr T x f => (match X.ty T with
    | some (S, nf) => bif Nat.blt f nf then (match ρ 0 x with
      | .ptr id ix p => (match hp id with
        | .box S' _ => if S'.sub p = some S then some (.pure (.ptr id ix (p ++ fp nf f))) else none
        | .cbox S' _ => if S'.sub p = some S then some (.pure (.ptr id ix (p ++ fp nf f))) else none
        | .arr _ e _ => if e.sub p = some S then some (.pure (.ptr id ix (p ++ fp nf f))) else none
        | .none => none)
      | .iptr s y => if s = S then (match getT s y (fp nf f) with
        | some ⟨t, z⟩ => some (.pure (.iptr t z))
        | none => none) else none
      | _ => none) else none
    | none => none)
  | .field T x f => (match X.ty T with
    | some (S, nf) => bif Nat.blt f nf && fits hp S (ρ 0 x) then (match getA (ρ 0 x) (fp nf f) with
      | some v => some (.pure v)
      | none => none) else none
    | none => none)
  | .indexAddr T x i => (match X.ty T with
    | some (.sl _ e, _) => indexAV hp e (ρ 0 x) (ρ 0 i)
    | _ => none)
  | .index T x i => (match X.ty T, ρ 0 x, ρ 0 i with
    | some (.str, _), .val .str s, .val (.int _) i => some (.when (decide ((0 : Int) ≤ i) && decide (i < ((ByteArray.size s : Nat) : Int))) (.val (.int .u8) (strAt s i)))
    | _, _, _ => none)
  | .extract t i => (match extractAV (ρ 0 t) i with
    | some v => bif v.isTup then none else some (.pure v)
    | none => none)
  | .call c => (match c.callee with
    | .builtin .len => (match c.args.toList, c.argTypes.toList with
      | [x], T :: _ => (match X.ty T with
        | some (S, _) => lenAV hp S (ρ 0 x)
        | none => none)
      | _, _ => none)
    | .builtin .append => (match c.args.toList, c.argTypes.toList, o.dst with
      | [a, b], [T, T'], some d => if T = T' then (match X.ty T with
        | some (.sl E e, _) => appendAV hp d E e (ρ T a) (ρ T b)
        | _ => none) else none
      | _, _, _ => none)
    | .value f => (match ρ 0 f with
      | .fn g caps => callCons hp d ((c.args.toList.map fun x => ρ 0 x) ++ caps.map fun id => .ptr id none []) (X.con g)
      | _ => none)
    | _ => none)
  | _ => none

/-! ### States -/
def rho (X : Ctx) (env : Nat → AV) : TypeId → Operand → AV := fun T x => opnd X env T x

def Op.isMove : Op → Bool
  | .move _ => true
  | .assign _ => true
  | .extract _ _ => true
  | _ => false

def argIds (X : Ctx) (env : Nat → AV) (o : Oper) : List Nat := bif Op.isMove o.op then [] else o.op.operands.toList.flatMap fun x => (opnd X env 0 x).ids

def foot (X : Ctx) (s : St) (o : Oper) : List Nat :=
  let l := argIds X s.env o
  l ++ l.flatMap fun id => (s.hp id).ids

def restr (hp : Nat → Ob) (l : List Nat) : Nat → Ob := fun id => bif mem id l then hp id else .none

/-- What is turned lies in the foot; what is new has a number of its own. -/
def newOk (s : St) (l : List Nat) : List (Nat × Ob) → Bool
  | [] => true
  | u :: r => (bif (s.hp u.1).isNone then Nat.blt (u.1 % 10000) 5000 else mem u.1 l) && newOk s l r

def St.put (s : St) (dst : Option Nat) (v : AV) : St :=
  match dst with
  | some d => ⟨upd s.env d v, s.hp⟩
  | none => s

def St.app (s : St) (dst : Option Nat) (r : Res) : St :=
  let s1 := (s.scrub r.dr).killN r.nk
  St.put ⟨s1.env, updL s1.hp r.up⟩ dst r.v

def dstOk (X : Ctx) : Option Nat → Bool
  | some d => Nat.blt d X.n
  | none => true

/-- One operation: whether it may be done, and the state behind it. -/
def step (X : Ctx) (o : Oper) (s : St) : Option (Bool × St) :=
  let l := foot X s o
  match core X o (rho X s.env) (restr s.hp l) with
  | some r => bif dstOk X o.dst && newOk s l r.up && nodup (r.up.map (·.1)) && disj (r.up.map (·.1)) r.dr && subl r.dr l then some (r.c, s.app o.dst r) else none
  | none => none

/-! ### Regions -/
def opDst (ops : Array Oper) (j : Nat) : Option Nat := (ops[j]?).bind (·.dst)

/-- A guard's test is made known: one way with true, one with false. -/
def splitG {R : Type} (ops : Array Oper) (o : Oper) (s : St) (f : St → Option R) : Option R :=
  match o.guard with
  | none => f s
  | some (j, _) => (match opDst ops j with
    | some t => (match s.env t with
      | .val .bool b => bif b then f (s.put (some t) (.val .bool true)) else f (s.put (some t) (.val .bool false))
      | .tnil => f s
      | _ => none)
    | none => none)

def wantedA (ops : Array Oper) (o : Oper) (s : St) : Option Bool :=
  match o.guard with
  | none => some true
  | some (j, want) => (match opDst ops j with
    | some t => (match s.env t with
      | .val .bool b => some (b == want)
      | .tnil => some false
      | _ => none)
    | none => none)

/-- An operation under its guard. -/
def gstep (X : Ctx) (ops : Array Oper) (o : Oper) (s : St) : Option (Bool × St) :=
  match wantedA ops o s with
  | some w => bif w then step X o s else bif dstOk X o.dst then some (true, s.put o.dst .tnil) else none
  | none => none

def evOps {R : Type} (X : Ctx) (ops : Array Oper) : List Oper → St → (St → Option R) → Option R
  | [], s, K => K s
  | o :: r, s, K => splitG ops o s fun s1 => (match gstep X ops o s1 with
      | some (c, s2) => bif c then evOps X ops r s2 K else none
      | none => none)

/-! ### Regions that draw their order: evaluated in the order of the text, every pair that no edge orders being apart -/
structure Info where
  o : Oper
  i : Nat
  foot : List Nat
  w : List Nat     -- what it turns or makes
  tk : List Nat    -- what it takes away
  res : List Nat   -- what its results lead to
  cl : Bool        -- all that it looks at is known
  tch : List Nat   -- what it touches

def isNil {α : Type} : List α → Bool
  | [] => true
  | _ => false

def AV.whole : AV → Bool
  | .unk => false
  | .pair a b => a.whole && b.whole
  | .tcons a b => a.whole && b.whole
  | _ => true

def Ob.whole : Ob → Bool
  | .none => false
  | .box _ v => v.whole
  | _ => true

/-- What an operation looks at of a slot. -/
def pj (op : Op) (v : AV) : AV :=
  match op with
  | .extract _ i => (extractAV v i).getD .tnil
  | _ => v

def lkOf (ops : Array Oper) (o : Oper) (s : St) : List Nat := (o.looksAt ops).flatMap fun t => (pj o.op (s.env t)).ids

def resOf (r : Res) : List Nat := r.up.map (·.1) ++ ((r.up.flatMap fun q => q.2.ids) ++ r.v.ids)

def infoOf (X : Ctx) (ops : Array Oper) (o : Oper) (i : Nat) (s : St) : Option Info :=
  match wantedA ops o s with
  | none => none
  | some w => bif w then
      (let l := foot X s o
       match core X o (rho X s.env) (restr s.hp l) with
       | some r => some ⟨o, i, l, r.up.map (·.1), r.dr ++ r.nk, resOf r, ((o.looksAt ops).all fun t => (pj o.op (s.env t)).whole) && (l.all fun id => (s.hp id).whole),
           lkOf ops o s ++ (l ++ ((l.flatMap fun id => (s.hp id).ids) ++ resOf r))⟩
       | none => none)
    else some ⟨o, i, [], [], [], [], true, []⟩

def uniN : List Nat → List Nat → List Nat
  | [], l => l
  | x :: a, l => bif mem x l then uniN a l else uniN a (x :: l)

/-- Is i ahead of the operation by its edges, or theirs? 'cl': for each operation ahead the set of those that it waits for, as a list. -/
def closure (ops : List Oper) : List (List Nat) :=
  ops.foldl (init := []) fun acc o =>
    acc ++ [o.after.toList.foldl (init := []) fun l e => bif Region.binds .any e then uniN (e.on :: acc.getD e.on []) l else l]

def apartI (ops : Array Oper) (a b : Info) : Bool :=
  a.o.apart ops b.o && disj a.w (b.foot ++ b.w) && disj b.w a.foot && disj a.tk b.res && (isNil a.tk || b.cl) && disj b.tk a.tch

def okWith (ops : Array Oper) (cl : List (List Nat)) (acc : List Info) (b : Info) : Bool :=
  acc.all fun a => mem a.i (cl.getD b.i []) || apartI ops a b

/-- Its edges lead back. -/
def backE (o : Oper) (i : Nat) : Bool := o.after.toList.all fun e => !Region.binds .any e || Nat.blt e.on i

def evDraw {R : Type} (X : Ctx) (ops : Array Oper) (cl : List (List Nat)) : List Oper → Nat → List Info → St → (St → Option R) → Option R
  | [], _, _, s, K => K s
  | o :: r, i, acc, s, K => splitG ops o s fun s1 => (match infoOf X ops o i s1, gstep X ops o s1 with
      | some f, some (c, s2) => bif okWith ops cl acc f && backE o i then (bif c then evDraw X ops cl r (i + 1) (f :: acc) s2 K else none) else none
      | _, _ => none)

/-! ### Memory given up: an array becomes a value that is read alone -/
def AV.fz (id : Nat) (T : TypeId) (e : Sh) (xs : List e.den) : AV → AV
  | .pair a b => mkPair (a.fz id T e xs) (b.fz id T e xs)
  | .tcons a b => .tcons (a.fz id T e xs) (b.fz id T e xs)
  | .sref j ix p => bif Nat.beq j id then (match ix with
      | none => .val (.sl T e) xs
      | some i => (match getT e (rdL xs i) p with | some ⟨s, x⟩ => .val s x | none => .unk)) else .sref j ix p
  | .ptr j ix p => bif Nat.beq j id then (match ix with
      | none => .unk
      | some i => (match getT e (rdL xs i) p with | some ⟨s, x⟩ => .iptr s x | none => .unk)) else .ptr j ix p
  | .fn f caps => bif mem id caps then .unk else .fn f caps
  | v => v

def St.fzId (s : St) (id : Nat) : Option St :=
  match s.hp id with
  | .arr T e xs => some ⟨fun t => (s.env t).fz id T e xs, fun j => bif Nat.beq j id then .none else (s.hp j).mapA (AV.fz id T e xs)⟩
  | _ => none

def St.fzIds (s : St) : List Nat → Option St
  | [] => some s
  | id :: r => match s.fzId id with
    | some s' => s'.fzIds r
    | none => none

def arrIds (hp : Nat → Ob) (v : AV) : List Nat :=
  v.ids.flatMap fun id => match hp id with | .arr _ _ _ => [id] | .box _ u => u.ids | _ => []

def St.fzSlots (s : St) : List Nat → Option St
  | [] => some s
  | t :: r => match s.fzIds (arrIds s.hp (s.env t)) with
    | some s' => s'.fzSlots r
    | none => none

/-! ### Loops' heads: what is kept -/
def immAV (hp : Nat → Ob) : AV → Option (AV × List Nat)
  | .val s x => some (.val s x, [])
  | .nilv T e => some (.val (.sl T e) [], [])
  | .sref id none [] => match hp id with
    | .arr T e xs => some (.val (.sl T e) xs, [id])
    | _ => none
  | .sref id (some i) p => match hp id with
    | .arr _ e xs => (match getT e (rdL xs i) p with
      | some ⟨.sl T' e', y⟩ => some (.val (.sl T' e') y, [id])
      | _ => none)
    | _ => none
  | .pair a b => match immAV hp a, immAV hp b with
    | some (u, l), some (v, m) => some (mkPair u v, l ++ m)
    | _, _ => none
  | _ => none

structure Canon where
  v : AV
  up : List (Nat × Ob)
  mv : List Nat
  fr : List Nat
  as : List Nat
  k : Nat

def canonAV (hp : Nat → Ob) : Kd → AV → Nat → Option Canon
  | .asis, v, k => some ⟨v, [], [], [], v.ids, k⟩
  | .own, .nilv T e, k => some ⟨.sref k none [], [(k, .arr T e [])], [], [], [], k + 10000⟩
  | .own, .sref id none [], k => (match hp id with
    | .arr T e xs => some ⟨.sref k none [], [(k, .arr T e xs)], [id], [], [], k + 10000⟩
    | _ => none)
  | .imm, v, k => (match immAV hp v with
    | some (u, l) => some ⟨u, [], [], l, [], k⟩
    | none => none)
  | .pair a b, v, k => (match getA v [false], getA v [true] with
    | some u, some w => (match canonAV hp a u k with
      | some x => (match canonAV hp b w x.k with
        | some y => some ⟨mkPair x.v y.v, x.up ++ y.up, x.mv ++ y.mv, x.fr ++ y.fr, x.as ++ y.as, y.k⟩
        | none => none)
      | none => none)
    | _, _ => none)
  | _, _, _ => none

def seedOf (id : Nat) : Nat := bif Nat.blt (id % 10000) 2500 then 2500 + id else 4000 + id / 1000000000

structure Mask where
  env : List (Nat × AV)
  up : List (Nat × Ob)
  mv : List Nat
  fr : List Nat
  as : List Nat

def maskSlots (s : St) : List (Nat × Kd) → Option Mask
  | [] => some ⟨[], [], [], [], []⟩
  | (t, kd) :: r => match canonAV s.hp kd (s.env t) (seedOf t), maskSlots s r with
    | some c, some m => some ⟨(t, c.v) :: m.env, c.up ++ m.up, c.mv ++ m.mv, c.fr ++ m.fr, c.as ++ m.as⟩
    | _, _ => none

def maskBoxes (s : St) : List (Nat × Kd) → Option Mask
  | [] => some ⟨[], [], [], [], []⟩
  | (id, kd) :: r => match s.hp id, maskBoxes s r with
    | .box S v, some m => (match canonAV s.hp kd v (seedOf id) with
      | some c => some ⟨m.env, (id, .box S c.v) :: c.up ++ m.up, c.mv ++ m.mv, c.fr ++ m.fr, c.as ++ m.as⟩
      | none => none)
    | .cbox S x, some m => some ⟨m.env, (id, .cbox S x) :: m.up, m.mv, m.fr, m.as⟩
    | _, _ => none

def maskArrs (s : St) : List Nat → Option (List (Nat × Ob))
  | [] => some []
  | id :: r => match s.hp id, maskArrs s r with
    | .arr T e xs, some l => some ((id, .arr T e xs) :: l)
    | _, _ => none

def maskOk (X : Ctx) (K : Keep) (a b : Mask) (l : List (Nat × Ob)) : Bool :=
  let keys := (l ++ (b.up ++ a.up)).map (·.1)
  nodup keys && nodup (K.arrs ++ (b.mv ++ a.mv)) && disj (a.fr ++ b.fr) (K.arrs ++ (b.mv ++ a.mv))
    && a.env.all (fun q => Nat.blt q.1 X.n && subl q.2.ids keys) && (l ++ (b.up ++ a.up)).all (fun u => subl u.2.ids keys)
    && (b.up ++ a.up).all (fun u => Nat.blt (u.1 % 10000) 5000 || (mem u.1 (K.boxes.map (·.1))))
    && subl (a.as ++ b.as) (K.arrs ++ K.boxes.map (·.1))

/-- What is kept at a loop's head: the slots, variables and arrays that are named; all else is forgotten. -/
def mask (X : Ctx) (K : Keep) (s : St) : Option St :=
  match maskSlots s K.slots, maskBoxes s K.boxes, maskArrs s K.arrs with
  | some a, some b, some l =>
    bif maskOk X K a b l then some ⟨updL (fun _ => .unk) a.env, updL (fun _ => .none) (l ++ (b.up ++ a.up))⟩ else none
  | _, _, _ => none

/-! ### Code -/
inductive Ex where
  | normal
  | exit (id : Nat)
  | ret

open Classical in
/-- Both ways come to the same. -/
noncomputable def agree {R : Type} (x y : Option R) : Option R := if x = y then x else none

theorem agree_some {R : Type} {x y : Option R} {z : R} (h : agree x y = some z) : x = some z ∧ y = some z := by
  unfold agree at h
  split at h
  · rename_i e; exact ⟨h, e ▸ h⟩
  · cases h

theorem agree_same {R : Type} {x : Option R} : agree x x = x := by unfold agree; rw [if_pos rfl]

noncomputable def ev {R : Type} (X : Ctx) (M : List Bool → St → Option R) : Code → List Bool → (Ex → St → Option R) → St → Option R
  | .skip, _, K, s => K .normal s
  | .region id ops draw, _, K, s =>
    match s.fzSlots (X.fz id) with
    | some s => bif draw then evDraw X ops (closure ops.toList) ops.toList 0 [] s (K .normal) else evOps X ops ops.toList s (K .normal)
    | none => none
  | .seq a b, p, K, s => ev X M a (false :: p) (fun e s' => match e with | .normal => ev X M b (true :: p) K s' | e => K e s') s
  | .cond (.tmp t) a b, p, K, s => (match s.env t with
    | .val .bool c => bif c then ev X M a (false :: p) K (s.put (some t) (.val .bool true)) else ev X M b (true :: p) K (s.put (some t) (.val .bool false))
    | .nq e => bif e then agree (ev X M a (false :: p) K s) (ev X M b (true :: p) K s) else ev X M b (true :: p) K s
    | _ => none)
  | .block id b, p, K, s => ev X M b (false :: p) (fun e s' => match e with
    | .exit i => bif Nat.beq i id then K .normal s' else K (.exit i) s'
    | e => K e s') s
  | .loop _, p, _, s => (match mask X (X.keep p) s with
    | some s' => M p s'
    | none => none)
  | .exit id, _, K, s => K (.exit id) s
  | .ret, _, K, s => K .ret s
  | _, _, _, _ => none

/-- One round of the loop at a path ('q': what is left of it, outermost first). -/
noncomputable def evAt {R : Type} (X : Ctx) (M : List Bool → St → Option R) : Code → List Bool → List Bool → (Ex → St → Option R) → St → Option R
  | .seq a b, false :: q, p, K, s => evAt X M a q (false :: p) (fun e s' => match e with | .normal => ev X M b (true :: p) K s' | e => K e s') s
  | .seq _ b, true :: q, p, K, s => evAt X M b q (true :: p) K s
  | .cond _ a _, false :: q, p, K, s => evAt X M a q (false :: p) K s
  | .cond _ _ b, true :: q, p, K, s => evAt X M b q (true :: p) K s
  | .block id b, false :: q, p, K, s => evAt X M b q (false :: p) (fun e s' => match e with
    | .exit i => bif Nat.beq i id then K .normal s' else K (.exit i) s'
    | e => K e s') s
  | .loop b, [], p, K, s => ev X M b (false :: p) (fun e s' => match e with
    | .normal => (match mask X (X.keep p) s' with | some s'' => M p s'' | none => none)
    | e => K e s') s
  | .loop b, false :: q, p, K, s => evAt X M b q (false :: p) (fun e s' => match e with
    | .normal => (match mask X (X.keep p) s' with | some s'' => M p s'' | none => none)
    | e => K e s') s
  | _, _, _, _, _ => none

/-! ### Functions -/
def capsInit : (ss : List Sh) → (chain ss).den → Nat → List Nat × List (Nat × Ob)
  | [], _, _ => ([], [])
  | s :: r, x, k => match capsInit r x.2 (k + 1) with
    | (ids, l) => (k :: ids, (k, .cbox s x.1) :: l)

def initAV : (m : Mode) → m.inSh.den → Nat → AV × List (Nat × Ob)
  | .imm S, x, _ => (.val S x, [])
  | .own S, x, k => match intro S x k with | (v, l, _) => (v, l)
  | .lend T e, x, k => (.sref k none [], [(k, .arr T e x)])
  | .pO S, x, k => match intro S x (k + 1) with | (v, l, _) => (.ptr k none [], (k, .box S v) :: l)
  | .pI S, x, k => (.ptr k none [], [(k, .box S (.val S x))])
  | .pR S, x, k => (.ptr k none [], [(k, .cbox S x)])
  | .clo f ss, x, k => match capsInit ss x k with | (ids, l) => (.fn f ids, l)
  | .loan S, x, k => match intro S x k with | (v, l, _) => (v, l)

def pseed (i : Nat) : Nat := 1000000000 * i + 5000

def initL : (ms : List Mode) → (insSh ms).den → Nat → List (Nat × AV) × List (Nat × Ob)
  | [], _, _ => ([], [])
  | m :: r, x, i => match initAV m x.1 (pseed i), initL r x.2 (i + 1) with
    | (v, l), (vs, ls) => ((i, v) :: vs, l ++ ls)

def initSt (ms : List Mode) (x : (insSh ms).den) : St :=
  match initL ms x 0 with
  | (vs, l) => ⟨updL (fun _ => .unk) vs, updL (fun _ => .none) l⟩

def loanOut (hp : Nat → Ob) : (S : Sh) → S.den → Nat → Option (S.den × List Nat)
  | .sl T e, _, k => (match hp k with
    | .arr T' e' xs => (match cst (.sl T' e') (.sl T e) xs with
      | some y => some (y, [k])
      | none => none)
    | _ => none)
  | .pair a b, x, k => (match loanOut hp a x.1 k, loanOut hp b x.2 (k + 10000 * a.nsl) with
    | some (y, l), some (z, m) => some ((y, z), l ++ m)
    | _, _ => none)
  | .int _, x, _ => some (x, [])
  | .bool, x, _ => some (x, [])
  | .str, x, _ => some (x, [])
  | .unit, x, _ => some (x, [])

def backOut (hp : Nat → Ob) : (ms : List Mode) → (insSh ms).den → Nat → Option ((backSh ms).den × List Nat)
  | [], _, _ => some ((), [])
  | .lend T e :: r, x, i => (match hp (pseed i) with
    | .arr T' e' xs => (match cst (.sl T' e') (.sl T e) xs, backOut hp r x.2 (i + 1) with
      | some y, some (z, E) => some ((y, z), pseed i :: E)
      | _, _ => none)
    | _ => none)
  | .pO S :: r, x, i => (match hp (pseed i) with
    | .box S' v => if S' = S then (match absorb hp S v, backOut hp r x.2 (i + 1) with
      | some (y, D), some (z, E) => some ((y, z), D ++ E)
      | _, _ => none) else none
    | _ => none)
  | .pI S :: r, x, i => (match hp (pseed i) with
    | .box S' (.val s y) => if S' = S then (match cst s S y, backOut hp r x.2 (i + 1) with
      | some y, some (z, E) => some ((y, z), E)
      | _, _ => none) else none
    | _ => none)
  | .loan S :: r, x, i => (match loanOut hp S x.1 (pseed i), backOut hp r x.2 (i + 1) with
    | some (z, D), some (y, E) => some ((z, y), D ++ E)
    | _, _ => none)
  | .imm _ :: r, x, i => backOut hp r x.2 (i + 1)
  | .own _ :: r, x, i => backOut hp r x.2 (i + 1)
  | .pR _ :: r, x, i => backOut hp r x.2 (i + 1)
  | .clo _ _ :: r, x, i => backOut hp r x.2 (i + 1)

def retAV (X : Ctx) (s : St) : ResultVar → Option AV
  | .tmp t => some (s.env t)
  | .cell a T => match s.env a, X.ty T with
    | .ptr id none [], some (S, _) => (match s.hp id with
      | .box S' v => if S' = S then some v else none
      | _ => none)
    | _, _ => none

structure Out (rs : List (RK × Sh)) (ms : List Mode) where
  y : (outSh rs ms).den
  own : List Nat
  fr : List Nat

def retOut (X : Ctx) (s : St) : (rs : List (RK × Sh)) → (ms : List Mode) → (insSh ms).den → List ResultVar → Option (Out rs ms)
  | [], ms, x, [] => (match backOut s.hp ms x 0 with
    | some (y, D) => some ⟨y, D, []⟩
    | none => none)
  | (.new, S) :: rs, ms, x, v :: vs => (match retAV X s v, retOut X s rs ms x vs with
    | some (.ptr id none []), some o => (match s.hp id with
      | .box S' u => if S' = S then (match immAV s.hp u with
        | some (uv, l) => (match toVal s.hp S uv with
          | some y => bif Nat.blt (id % 10000) 5000 then some ⟨(y, o.y), id :: o.own, l ++ o.fr⟩ else none
          | none => none)
        | none => none) else none
      | _ => none)
    | _, _ => none)
  | (.own, S) :: rs, ms, x, v :: vs => (match retAV X s v, retOut X s rs ms x vs with
    | some a, some o => (match absorb s.hp S a with
      | some (y, D) => some ⟨(y, o.y), D ++ o.own, o.fr⟩
      | none => none)
    | _, _ => none)
  | (.imm, S) :: rs, ms, x, v :: vs => (match retAV X s v, retOut X s rs ms x vs with
    | some a, some o => (match immAV s.hp a with
      | some (u, l) => (match toVal s.hp S u with
        | some y => some ⟨(y, o.y), o.own, l ++ o.fr⟩
        | none => none)
      | none => none)
    | _, _ => none)
  | _, _, _, _ => none

def kRet (X : Ctx) (fn : Func) (rs : List (RK × Sh)) (ms : List Mode) (x : (insSh ms).den) : Ex → St → Option (outSh rs ms).den
  | .exit _, _ => none
  | _, s => match retOut X s rs ms x fn.results.toList with
    | some o => bif nodup o.own && disj o.fr o.own then some o.y else none
    | none => none

/-- The body, loops by 'M'. -/
noncomputable def evBody (X : Ctx) (fn : Func) (rs : List (RK × Sh)) (ms : List Mode) (M : (insSh ms).den → List Bool → St → Option (outSh rs ms).den) (x : (insSh ms).den) : Option (outSh rs ms).den :=
  match fn.body with
  | some c => bif nodup ((initL ms x 0).2.map (·.1)) && Nat.beq X.n fn.ntmps && Nat.ble ms.length X.n then ev X (M x) c [] (kRet X fn rs ms x) (initSt ms x) else none
  | none => none

noncomputable def rounds (X : Ctx) (fn : Func) (rs : List (RK × Sh)) (ms : List Mode) (x : (insSh ms).den) : Nat → List Bool → St → Option (outSh rs ms).den
  | 0, _, _ => none
  | k + 1, p, s => match fn.body with
    | some c => evAt X (rounds X fn rs ms x k) c p.reverse [] (kRet X fn rs ms x) s
    | none => none

noncomputable def evFn (X : Ctx) (fn : Func) (rs : List (RK × Sh)) (ms : List Mode) (k : Nat) (x : (insSh ms).den) : Option (outSh rs ms).den :=
  evBody X fn rs ms (fun x => rounds X fn rs ms x k) x

end Go.Vm
