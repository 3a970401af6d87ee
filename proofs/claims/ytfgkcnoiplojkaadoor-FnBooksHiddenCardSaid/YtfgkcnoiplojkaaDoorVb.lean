/- The value interpreter: one operation. -/
import Derived.Test.YtfgkcnoiplojkaaDoorVa
namespace Go.Proofs.YtfgkcnoiplojkaaDoor.VI
open Go

/-- An element's cells. -/
def toCells : (ty : Ty) → ty.den → List Cell
  | .int k, x => [.v (.int k x)]
  | .bool, x => [.v (.bool x)]
  | .str, x => [.v (.string x)]
  | .pair a b, x => toCells a x.1 ++ toCells b x.2
  | .row a, x => [.row a x]

def kindEq (a b : IntKind) : Bool := Nat.beq a.ctorIdx b.ctorIdx

def castRow (a b : Ty) (xs : List a.den) : Option (List b.den) :=
  match a, b, xs with
  | .int j, .int k, xs => bif kindEq j k then some xs else none
  | .bool, .bool, xs => some xs
  | .str, .str, xs => some xs
  | a, b, xs => if h : a = b then some (h ▸ xs) else none

def cellI (k : IntKind) : Cell → Option Int
  | .v (.int j x) => bif kindEq k j then some x else none
  | _ => none
def cellB : Cell → Option Bool
  | .v (.bool x) => some x
  | _ => none
def cellS : Cell → Option ByteArray
  | .v (.string x) => some x
  | _ => none
def cellRow (a : Ty) : Cell → Option (List a.den)
  | .row c xs => castRow c a xs
  | .v (.slice none 0 0) => some []
  | _ => none

def first {α : Type} (f : Cell → Option α) : List Cell → Option (α × List Cell)
  | [] => none
  | c :: r => (f c).map fun x => (x, r)

/-- The element with these cells, and what cells are left. -/
def ofCells : (ty : Ty) → List Cell → Option (ty.den × List Cell)
  | .int k => first (cellI k)
  | .bool => first cellB
  | .str => first cellS
  | .pair a b => fun r => (ofCells a r).bind fun p => (ofCells b p.2).bind fun q => some ((p.1, q.1), q.2)
  | .row a => first (cellRow a)

def ofCells1 (ty : Ty) (cs : List Cell) : Option ty.den :=
  (ofCells ty cs).bind fun p => match p.2 with | [] => some p.1 | _ :: _ => none

/-- What an interpreter is given: the types, the functions called. -/
structure Env where
  tt : Nat → Option TD
  call : FuncId → List SV → List BX → M (List SV × List BX)
  ann : Nat → Option (List Nat)
  out : Nat → Option (List Nat)
  join : Nat → Option (List Nat)
  jout : Nat → Option (List Nat)
  cast : List (List (Option (Bool × Ty)))
  io : FuncId → Nat → Bool
  eqs : Nat → Option (List IntKind)

/-- What an operation does: the value, the boxes that it writes. -/
structure Eff where
  val : CV
  new : List (Nat × BX)
  upd : List (Nat × BX)

section
variable (E : Env) (T : Nat → Option CV) (B : Nat → Option BX)

def oneCell : Value → Bool
  | .agg _ => false
  | .tuple _ => false
  | _ => true

def opv : Operand → Option CV
  | .tmp t => T t
  | .const v => bif oneCell v then some (.s (.c (.v v))) else none
  | .func f => some (.s (.c (.fn f [])))
  | .global _ => none

def opc (x : Operand) : Option Cell := (opv T x).bind fun | .s (.c c) => some c | _ => none

def opI (x : Operand) : Option (IntKind × Int) := (opc T x).bind fun | .v (.int k n) => some (k, n) | _ => none
def opB (x : Operand) : Option Bool := (opc T x).bind fun | .v (.bool b) => some b | _ => none

/-- A slice's elements, as they now are; and the box in which they may still change. -/
def rowOf (want : Option Ty) : Cell → Option ((Σ ty : Ty, List ty.den) × Option Nat)
  | .row ty xs => some (⟨ty, xs⟩, none)
  | .own b => (B b).bind fun | .arr ro ty xs => some (⟨ty, xs⟩, bif ro then none else some b) | _ => none
  | .view b off n => (B b).bind fun | .arr ro ty xs => some (⟨ty, (xs.drop off).take n⟩, bif ro then none else some b) | _ => none
  | .v (.slice none 0 0) => want.map fun ty => (⟨ty, []⟩, none)
  | _ => none

def elemTy (t : TypeId) : Option Ty := (E.tt t).bind fun d => match d.kind with | .slice _ _ ty => some ty | _ => none

def rowAt (t : TypeId) (x : Operand) : Option ((Σ ty : Ty, List ty.den) × Option Nat) := (opc T x).bind (rowOf B (elemTy E t))

/-- The box b does not change any more. -/
def froze (b : Option Nat) : List (Nat × BX) :=
  match b with
  | none => []
  | some b => match B b with | some (.arr _ ty xs) => [(b, .arr true ty xs)] | _ => []

/-- A cell as it can be kept in a row: its boxes will not change any more. -/
def still (c : Cell) : Option (Cell × List (Nat × BX)) :=
  match c with
  | .v x => some (.v x, [])
  | .row ty xs => some (.row ty xs, [])
  | .own _ | .view _ _ _ => (rowOf B none c).map fun p => (.row p.1.1 p.1.2, froze B p.2)
  | _ => none

def stills : List Cell → Option (List Cell × List (Nat × BX))
  | [] => some ([], [])
  | c :: r => (still B c).bind fun p => (stills r).map fun q => (p.1 :: q.1, p.2 ++ q.2)

def cellsOf : CV → Option (List Cell)
  | .s (.c c) => some [c]
  | .s (.agg cs) => some cs
  | _ => none

def intBin (op : BinOp) (k : IntKind) (x y : Int) : M Value :=
  match op with
  | .add => .ret (.int k (k.wrap (x + y)))
  | .sub => .ret (.int k (k.wrap (x - y)))
  | .mul => .ret (.int k (k.wrap (x * y)))
  | .quo => .ite (decide (y = 0)) .fail (.ret (.int k (k.wrap (x.tdiv y))))
  | .rem => .ite (decide (y = 0)) .fail (.ret (.int k (x.tmod y)))
  | .and => .ret (.int k (k.wrap ((BitVec.ofInt k.bits x) &&& (BitVec.ofInt k.bits y)).toNat))
  | .or => .ret (.int k (k.wrap ((BitVec.ofInt k.bits x) ||| (BitVec.ofInt k.bits y)).toNat))
  | .xor => .ret (.int k (k.wrap ((BitVec.ofInt k.bits x) ^^^ (BitVec.ofInt k.bits y)).toNat))
  | .eql => .ret (.bool (x == y))
  | .neq => .ret (.bool (x != y))
  | .lss => .ret (.bool (decide (x < y)))
  | .leq => .ret (.bool (decide (x ≤ y)))
  | .gtr => .ret (.bool (decide (x > y)))
  | .geq => .ret (.bool (decide (x ≥ y)))
  | _ => .fail

def strBin (op : BinOp) (x y : ByteArray) : M Value :=
  match op with
  | .add => .ite (decide (((x.size + y.size : Nat) : Int) > IntKind.i64.max)) .fail (.ret (.string (x ++ y)))
  | .eql => .ret (.bool (x.toList == y.toList))
  | .neq => .ret (.bool (!(x.toList == y.toList)))
  | .lss => .ret (.bool (Op.bytesLess x.toList y.toList))
  | _ => .fail

/-- A comparison of structs of plain cells. -/
def cellsEq : List Cell → List Cell → Option Bool
  | [], [] => some true
  | .v (.int j x) :: r, .v (.int k y) :: s => bif kindEq j k then (cellsEq r s).map fun b => x == y && b else none
  | .v (.bool x) :: r, .v (.bool y) :: s => (cellsEq r s).map fun b => x == y && b
  | _, _ => none

def isBoolT (t : TypeId) : Bool := match E.tt t with | some d => (match d.kind with | .bool => true | _ => false) | none => false

/-- The numbers of a struct of numbers. -/
def aggInts : List IntKind → List Cell → Option (List Int)
  | [], [] => some []
  | k :: ks, .v (.int j x) :: cs => bif kindEq j k then (match aggInts ks cs with | some xs => some (x :: xs) | none => none) else none
  | _, _ => none

def eqInts : List Int → List Int → Bool
  | [], [] => true
  | x :: r, y :: s => x == y && eqInts r s
  | _, _ => false

def bin (tb : Bool) (te : Option (List IntKind)) (op : BinOp) (x y : CV) : M Value :=
  match x, y with
  | .s (.c (.v (.int j a))), .s (.c (.v (.int k b))) =>
    match op with
    | .shl => .ite (decide (b < 0)) .fail (.ret (.int j (j.wrap (a * 2 ^ (min b.toNat j.bits)))))
    | .shr => .ite (decide (b < 0)) .fail (.ret (.int j (a.fdiv (2 ^ (min b.toNat j.bits)))))
    | _ => bif kindEq j k then intBin op j a b else .fail
  | .s (.c (.v (.bool a))), .s (.c (.v (.bool b))) =>
    bif tb then
      match op with
      | .eql => .ret (.bool (a == b))
      | .neq => .ret (.bool (!(a == b)))
      | _ => .fail
    else .fail
  | .s (.c (.v (.string a))), .s (.c (.v (.string b))) => strBin op a b
  | .s (.agg xs), .s (.agg ys) => match te with
    | some ks => match aggInts ks xs, aggInts ks ys with
      | some a, some b => match op with
        | .eql => .ret (.bool (eqInts a b))
        | .neq => .ret (.bool (!eqInts a b))
        | _ => .fail
      | _, _ => .fail
    | none => .fail
  | _, _ => .fail

def pickCells (td : TD) (cs : List Cell) (off : Nat) : Option CV :=
  bif td.agg then (bif Nat.ble (off + td.size) cs.length then some (.s (.agg ((cs.drop off).take td.size))) else none)
  else bif Nat.beq td.size 1 then (cs[off]?).map fun c => .s (.c c) else none

def loadC (td : TD) : CV → M CV
  | .s (.c (.ptr b off)) => match B b with | some (.cells cs) => .ofO (pickCells td cs off) | _ => .fail
  | .eptr cs off => .ofO (pickCells td cs off)
  | .aptr b i off => match B b with | some (.arr _ ty xs) => .bind (.ofO xs[i]?) fun x => .ofO (pickCells td (toCells ty x) off) | _ => .fail
  | _ => .fail

def putCells (cs : List Cell) (off : Nat) (new : List Cell) : List Cell := cs.take off ++ new ++ cs.drop (off + new.length)

def storeC (td : TD) (p : CV) (new : List Cell) : M (List (Nat × BX)) :=
  bif Nat.beq new.length td.size then
  match p with
  | .s (.c (.ptr b off)) => match B b with
    | some (.cells cs) => bif Nat.ble (off + new.length) cs.length then .ret [(b, .cells (putCells cs off new))] else .fail
    | _ => .fail
  | .aptr b i off => match B b with
    | some (.arr false ty xs) => .bind (.ofO xs[i]?) fun x => .bind (.ofO (stills B new)) fun q =>
      bif Nat.ble (off + new.length) (toCells ty x).length && !(q.2.any fun p => Nat.beq p.1 b) then .bind (.ofO (ofCells1 ty (putCells (toCells ty x) off q.1))) fun y => .ret (q.2 ++ [(b, .arr false ty (xs.set i y))]) else .fail
    | _ => .fail
  | _ => .fail
  else .fail

def inside (i : Int) (n : Nat) : Bool := decide (0 ≤ i) && decide (i < n)

def sameSize (a b : Ty) : Bool := Nat.beq a.size b.size

def indexAddrC (t : TypeId) (x : Operand) (i : Int) : M CV :=
  .bind (.ofO (E.tt t)) fun d => match d.kind with
  | .slice _ _ ty0 => .bind (.ofO (opc T x)) fun
    | .row ty xs => bif sameSize ty ty0 then .ite (decide (0 ≤ i)) (.bind (.ofO xs[i.toNat]?) fun e => .ret (.eptr (toCells ty e) 0)) .fail else .fail
    | .own b => match B b with | some (.arr _ ty xs) => bif sameSize ty ty0 then .ite (inside i xs.length) (.ret (.aptr b i.toNat 0)) .fail else .fail | _ => .fail
    | .view b off n => match B b with | some (.arr _ ty _) => bif sameSize ty ty0 then .ite (inside i n) (.ret (.aptr b (off + i.toNat) 0)) .fail else .fail | _ => .fail
    | _ => .fail
  | .array n _ ty0 => .bind (.ofO (opc T x)) fun
    | .ptr b 0 => match B b with | some (.arr _ ty _) => bif sameSize ty ty0 then .ite (inside i n) (.ret (.aptr b i.toNat 0)) .fail else .fail | _ => .fail
    | _ => .fail
  | _ => .fail

def fieldOff (t : TypeId) (f : Nat) : Option (Nat × Nat × Bool) := (E.tt t).bind fun d => match d.kind with | .struct fs => fs[f]? | _ => none

def fieldAddrC (t : TypeId) (f : Nat) : CV → Option CV
  | .s (.c (.ptr b off)) => (B b).bind fun | .cells _ => (fieldOff E t f).map fun p => .s (.c (.ptr b (off + p.1))) | _ => none
  | .eptr cs off => (fieldOff E t f).map fun p => .eptr cs (off + p.1)
  | .aptr b i off => (fieldOff E t f).map fun p => .aptr b i (off + p.1)
  | _ => none

def fieldC (t : TypeId) (f : Nat) : CV → Option CV
  | .s (.agg cs) => (fieldOff E t f).bind fun p =>
    bif p.2.2 then (bif Nat.ble (p.1 + p.2.1) cs.length then some (.s (.agg ((cs.drop p.1).take p.2.1))) else none) else (cs[p.1]?).map fun c => .s (.c c)
  | _ => none

def optI (x : Option Operand) (d : Int) : Option Int :=
  match x with
  | none => some d
  | some x => (opI T x).map (·.2)

/-- x[lo:hi]: of a string, of a row, of a box. -/
def cutC (n m : Nat) (lo hi : Option Operand) (f : Nat → Nat → Cell) : M CV :=
  .bind (.ofO (optI T hi n)) fun h => .bind (.ofO (optI T lo 0)) fun l =>
    .ite (decide (0 ≤ l) && (decide (l ≤ h) && decide (h ≤ m))) (.ret (.s (.c (f l.toNat h.toNat)))) .fail

def sliceC (ty0 : Option Ty) (x : Cell) (lo hi : Option Operand) : M CV :=
  match x, ty0 with
  | .v (.string s), none => cutC T s.size s.size lo hi fun l h => .v (.string (s.extract l h))
  | .row ty xs, some ty0 => bif sameSize ty ty0 then cutC T xs.length xs.length lo hi fun l h => .row ty ((xs.drop l).take (h - l)) else .fail
  | .own b, some ty0 => match B b with
    | some (.arr _ ty xs) => bif sameSize ty ty0 then cutC T xs.length xs.length lo hi fun l h => .view b l (h - l) else .fail
    | _ => .fail
  | .view b off n, some ty0 => match B b with
    | some (.arr _ ty xs) => bif sameSize ty ty0 then cutC T n (xs.length - off) lo hi fun l h => .view b (off + l) (h - l) else .fail
    | _ => .fail
  | _, _ => .fail

/-- x[lo:hi:m]: up to the row's end. -/
def slice3C (ty0 : Ty) (x : Cell) (lo hi : Option Operand) (m : Int) : M CV :=
  match x with
  | .own b => match B b with
    | some (.arr _ ty xs) => bif sameSize ty ty0 then .ite (decide (m = xs.length)) (cutC T xs.length xs.length lo hi fun l h => .view b l (h - l)) .fail else .fail
    | _ => .fail
  | .view b off n => match B b with
    | some (.arr _ ty xs) => bif sameSize ty ty0 then .ite (decide (m = ((xs.length - off : Nat) : Int))) (cutC T n (xs.length - off) lo hi fun l h => .view b (off + l) (h - l)) .fail else .fail
    | _ => .fail
  | _ => .fail

end
end Go.Proofs.YtfgkcnoiplojkaaDoor.VI
