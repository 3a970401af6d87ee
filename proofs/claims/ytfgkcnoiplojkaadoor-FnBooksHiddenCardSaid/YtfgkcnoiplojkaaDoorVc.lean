/- The value interpreter: calls, appends, all operations, code, functions. -/
import Derived.Test.YtfgkcnoiplojkaaDoorVb
set_option linter.unusedVariables false
namespace Go.Proofs.YtfgkcnoiplojkaaDoor.VI
open Go

/-- The boxes to which a cell leads. -/
def Cell.leads : Cell → List Nat
  | .own b => [b]
  | .view b _ _ => [b]
  | .ptr b _ => [b]
  | .fn _ caps => caps
  | _ => []

def leadsAll : List Cell → List Nat
  | [] => []
  | c :: r => c.leads ++ leadsAll r

def SV.leads : SV → List Nat
  | .c x => x.leads
  | .agg cs => leadsAll cs

def leadsSVs : List SV → List Nat
  | [] => []
  | x :: r => x.leads ++ leadsSVs r

def CV.leads : CV → List Nat
  | .s x => x.leads
  | .aptr b _ _ => [b]
  | .tup vs => leadsSVs vs
  | .eptr cs _ => leadsAll cs
  | .und => []

def BX.leads : BX → List Nat
  | .cells cs => leadsAll cs
  | _ => []

/-- All boxes that can be reached from these, each once. -/
def reach (B : Nat → Option BX) : Nat → List Nat → List Nat → List Nat
  | 0, _, acc => acc
  | _ + 1, [], acc => acc
  | n + 1, b :: r, acc => bif has acc b then reach B n r acc else
    match B b with
    | some (.cells cs) => reach B n (r ++ leadsAll cs) (acc ++ [b])
    | _ => reach B n r (acc ++ [b])

def place : List Nat → Nat → Nat
  | [], _ => 0
  | j :: r, b => bif Nat.beq b j then 0 else place r b + 1

def Cell.ren (f : Nat → Nat) : Cell → Cell
  | .own b => .own (f b)
  | .view b off n => .view (f b) off n
  | .ptr b off => .ptr (f b) off
  | .fn g caps => .fn g (caps.map f)
  | .v x => .v x
  | .row ty xs => .row ty xs

def renAll (f : Nat → Nat) : List Cell → List Cell
  | [] => []
  | c :: r => c.ren f :: renAll f r

def SV.ren (f : Nat → Nat) : SV → SV
  | .c x => .c (x.ren f)
  | .agg cs => .agg (renAll f cs)

def renSVs (f : Nat → Nat) : List SV → List SV
  | [] => []
  | x :: r => x.ren f :: renSVs f r

def CV.ren (f : Nat → Nat) : CV → CV
  | .s x => .s (x.ren f)
  | .aptr b i off => .aptr (f b) i off
  | .tup vs => .tup (renSVs f vs)
  | .eptr cs off => .eptr (renAll f cs) off
  | .und => .und

def BX.ren (f : Nat → Nat) : BX → BX
  | .cells cs => .cells (renAll f cs)
  | .arr ro ty xs => .arr ro ty xs
  | .gone => .gone

def hasAll (m : List Nat) : List Nat → Bool
  | [] => true
  | b :: r => has m b && hasAll m r

/-- The boxes of l, their cells told by their places in m. -/
def boxesAt (B : Nat → Option BX) (m : List Nat) : List Nat → Option (List BX)
  | [] => some []
  | b :: r => match B b with
    | some x => bif hasAll m x.leads then (boxesAt B m r).map fun q => x.ren (place m) :: q else none
    | none => none

/-- The boxes that are lent for these roots: their names, and themselves, told by their places. -/
def lends (B : Nat → Option BX) (roots : List Nat) : Option (List Nat × List BX) :=
  let l := reach B 400 roots []
  bif hasAll l roots then (boxesAt B l l).map fun bs => (l, bs) else none

/-- The first n boxes keep their names. -/
def begins : Nat → Nat → List Nat → Bool
  | 0, _, _ => true
  | n + 1, i, j :: r => Nat.beq i j && begins n (i + 1) r
  | _ + 1, _, [] => false

/-- The name behind a call of what is number i there: a lent box, or a new one. -/
def backName (l : List Nat) (m k : Nat) (i : Nat) : Nat := match l[i]? with | some b => b | none => k + (i - m)

def newOf (g : Nat → Nat) (k : Nat) : List BX → List (Nat × BX)
  | [] => []
  | x :: r => (k, x.ren g) :: newOf g (k + 1) r

def updOf (g : Nat → Nat) : List Nat → List BX → List (Nat × BX)
  | b :: l, x :: r => (b, x.ren g) :: updOf g l r
  | _, _ => []

section
variable (E : Env) (T : Nat → Option CV) (B : Nat → Option BX)

/-- An argument: what is told of it, the boxes that it only shows. -/
def argCell (io : Bool) (t : TypeId) : Cell → Option (Cell × List Nat)
  | .v (.slice none 0 0) => match elemTy E t with
    | some ty => some (.row ty [], [])
    | none => none
  | .own b => match B b with
    | some (.arr ro ty xs) => bif io then some (.own b, []) else some (.row ty xs, bif ro then [] else [b])
    | _ => none
  | .view b off n => match B b with
    | some (.arr ro ty xs) => some (.row ty ((xs.drop off).take n), bif ro then [] else [b])
    | _ => none
  | c => some (c, [])

def argCells (io : Bool) : List Cell → Option (List Cell × List Nat)
  | [] => some ([], [])
  | c :: r => (argCell E B io 0 c).bind fun p => (argCells io r).map fun q => (p.1 :: q.1, p.2 ++ q.2)

def argV (io : Bool) (t : TypeId) : CV → Option (SV × List Nat)
  | .s (.c c) => (argCell E B io t c).map fun p => (.c p.1, p.2)
  | .s (.agg cs) => (argCells E B io cs).map fun p => (.agg p.1, p.2)
  | _ => none

def argVs (f : FuncId) : Nat → List (Operand × TypeId) → Option (List SV × List Nat)
  | _, [] => some ([], [])
  | i, x :: r => (opv T x.1).bind fun v => (argV E B (E.io f i) x.2 v).bind fun p => (argVs f (i + 1) r).map fun q => (p.1 :: q.1, p.2 ++ q.2)

/-- Could this lie in memory that is only shown? -/
def Ty.leads : Ty → Bool
  | .row _ => true
  | .pair a b => a.leads || b.leads
  | _ => false

def Cell.shows : Cell → Bool
  | .row _ _ => true
  | _ => false

def SV.shows : SV → Bool
  | .c x => x.shows
  | .agg cs => cs.any Cell.shows

def BX.shows : BX → Bool
  | .cells cs => cs.any Cell.shows
  | .arr _ ty _ => ty.leads
  | .gone => false

def frozeAll : List Nat → List (Nat × BX)
  | [] => []
  | b :: r => froze B (some b) ++ frozeAll r

def oneOf : List SV → CV
  | [x] => .s x
  | q => .tup q

def callC (k : Nat) (f : FuncId) (caps : List Nat) (args : List (Operand × TypeId)) : M Eff :=
  .bind (.ofO (argVs E T B f 0 args)) fun a =>
  let vs := a.1 ++ caps.map fun b => SV.c (.ptr b 0)
  .bind (.ofO (lends B (leadsSVs vs))) fun p =>
  bif a.2.any fun b => has p.1 b then .fail else
  .bind (E.call f (renSVs (place p.1) vs) p.2) fun r =>
  let g := backName p.1 p.1.length k
  let fr := bif r.1.any SV.shows || r.2.any BX.shows then frozeAll B a.2 else []
  .ret ⟨oneOf (renSVs g r.1), newOf g k (r.2.drop p.1.length), fr ++ updOf g p.1 r.2⟩

def bytesOf (s : ByteArray) : List Int := s.data.toList.map fun b => (b.toNat : Int)
def strOf (xs : List Int) : ByteArray := ⟨(xs.map fun x => UInt8.ofNat x.toNat).toArray⟩

def appended (ty : Ty) (u : TypeId) (y : Cell) : Option (List ty.den) :=
  (E.tt u).bind fun d => match d.kind with
  | .str => match y with
    | .v (.string s) => castRow (.int .u8) ty (bytesOf s)
    | _ => none
  | .slice _ _ uy => (rowOf B (some uy) y).bind fun p => castRow p.1.1 ty p.1.2
  | _ => none

def room (n ebytes : Nat) : Bool := decide (n * ebytes ≤ 140737488355328)

/-- A row with others in place of what stood from p on. -/
def splice {α : Type} (xs : List α) (p : Nat) (ys : List α) : List α := xs.take p ++ (ys ++ xs.drop (p + ys.length))

def clearC (args : List (Operand × TypeId)) : M Eff :=
  match args with
  | [(x, t)] => .bind (.ofO (E.tt t)) fun d => match d.kind with
    | .slice _ ez ty => .bind (.ofO (opc T x)) fun
      | .view b off n => match B b with
        | some (.arr false ty' xs') => .bind (.ofO (castRow ty' ty xs')) fun xs => .bind (.ofO (ofCells1 ty ez)) fun z =>
          .ite (decide (0 < n)) (.ret ⟨.tup [], [], [(b, .arr false ty (splice xs off (List.replicate n z)))]⟩) .fail
        | _ => .fail
      | _ => .fail
    | _ => .fail
  | _ => .fail

def appendC (k : Nat) (args : List (Operand × TypeId)) : M Eff :=
  match args with
  | [(x, t), (y, u)] => .bind (.ofO (E.tt t)) fun d => match d.kind with
    | .slice ebytes _ ty =>
      .bind (.ofO (opc T x)) fun cx => .bind (.ofO ((opc T y).bind (appended E B ty u))) fun ys =>
      match cx with
      | .v (.slice none 0 0) => .ite (room ys.length ebytes) (.ret ⟨.s (.c (.own k)), [(k, .arr false ty ys)], []⟩) .fail
      | .own b => match B b with
        | some (.arr false ty' xs') => .bind (.ofO (castRow ty' ty xs')) fun xs =>
          .ite (room (xs.length + ys.length) ebytes) (.ret ⟨.s (.c (.own k)), [(k, .arr false ty (xs ++ ys))], [(b, .gone)]⟩) .fail
        | _ => .fail
      | .view b off n => match B b with
        | some (.arr false ty' xs') => .bind (.ofO (castRow ty' ty xs')) fun xs =>
          .ite (decide (off < xs.length) && (decide (off + n + ys.length ≤ xs.length) && room (n + ys.length) ebytes)) (.ret ⟨.s (.c (.view b off (n + ys.length))), [], [(b, .arr false ty (splice xs (off + n) ys))]⟩) .fail
        | _ => .fail
      | _ => .fail
    | _ => .fail
  | _ => .fail

/-- Zero cells: a nil slice is a box of its own. -/
def fresh (k : Nat) : List Cell → List Cell × List (Nat × BX)
  | [] => ([], [])
  | .row ty [] :: r => let q := fresh (k + 1) r; (.own k :: q.1, (k, .arr false ty []) :: q.2)
  | c :: r => let q := fresh k r; (c :: q.1, q.2)

def lenC (t : TypeId) (x : Operand) : Option Int :=
  (E.tt t).bind fun d => match d.kind with
  | .str => (opc T x).bind fun | .v (.string s) => some s.size | _ => none
  | .slice .. => (opc T x).bind fun
    | .row _ xs => some xs.length
    | .own b => (B b).bind fun | .arr _ _ xs => some xs.length | _ => none
    | .view b _ n => (B b).bind fun | .arr .. => some n | _ => none
    | .v (.slice none 0 0) => some 0
    | _ => none
  | _ => none

/-- A value that is put into a variable of type t: nil becomes a box. -/
def settle (k : Nat) (t : TypeId) (v : CV) : CV × List (Nat × BX) :=
  match v with
  | .s (.c (.v (.slice none 0 0))) => match elemTy E t with
    | some ty => (.s (.c (.own k)), [(k, .arr false ty [])])
    | none => (v, [])
  | v => (v, [])

def partCells : List (Nat × Operand) → Option (List (Nat × List Cell))
  | [] => some []
  | x :: r => (opv T x.2).bind fun v => (cellsOf v).bind fun cs => (partCells r).map fun q => (x.1, cs) :: q

/-- A struct's cells: zero but for the parts. -/
def fillC (fs : List (Nat × Nat × Bool)) (cs : List Cell) : List (Nat × List Cell) → Option (List Cell)
  | [] => some cs
  | p :: r => (fs[p.1]?).bind fun f => bif Nat.beq p.2.length f.2.1 && Nat.ble (f.1 + p.2.length) cs.length then fillC fs (putCells cs f.1 p.2) r else none

/-- The elements of a written-out slice: each one is told, in order. -/
def elemsC (ty : Ty) : Nat → List (Nat × List Cell) → Option (List ty.den × List (Nat × BX))
  | _, [] => some ([], [])
  | i, p :: r => bif Nat.beq p.1 i then (stills B p.2).bind fun q => (ofCells1 ty q.1).bind fun x => (elemsC ty (i + 1) r).map fun s => (x :: s.1, q.2 ++ s.2) else none

def pureM (v : Value) : M Eff := .ret ⟨.s (.c (.v v)), [], []⟩
def giveM (v : CV) : M Eff := .ret ⟨v, [], []⟩

def builtinC (k : Nat) (b : Builtin) (args : List (Operand × TypeId)) : M Eff :=
  match b with
  | .append => appendC E T B k args
  | .clear => clearC E T B args
  | .len => match args with | [(x, t)] => .bind (.ofO (lenC E T B t x)) fun n => pureM (.int .i64 n) | _ => .fail
  | .min => match args with | [(x, _), (y, _)] => .bind (.ofO (opI T x)) fun a => .bind (.ofO (opI T y)) fun b => bif kindEq a.1 b.1 then pureM (.int a.1 (min a.2 b.2)) else .fail | _ => .fail
  | .max => match args with | [(x, _), (y, _)] => .bind (.ofO (opI T x)) fun a => .bind (.ofO (opI T y)) fun b => bif kindEq a.1 b.1 then pureM (.int a.1 (max a.2 b.2)) else .fail | _ => .fail
  | _ => .fail

def convC (k : Nat) (src dst : TypeId) (x : Operand) : M Eff :=
  .bind (.ofO (E.tt src)) fun s => .bind (.ofO (E.tt dst)) fun d => match s.kind, d.kind with
  | .int _, .int j => .bind (.ofO (opI T x)) fun a => pureM (.int j (j.wrap a.2))
  | .str, .str => .bind (.ofO (opc T x)) fun | .v (.string s) => pureM (.string s) | _ => .fail
  | .slice _ _ (.int .u8), .str => .bind (.ofO ((opc T x).bind fun c => (rowOf B (some (.int .u8)) c).bind fun p => castRow p.1.1 (.int .u8) p.1.2)) fun xs => pureM (.string (strOf xs))
  | _, _ => .fail

def capsOf : List Operand → Option (List Nat)
  | [] => some []
  | x :: r => (opc T x).bind fun
    | .ptr b 0 => (capsOf r).map (b :: ·)
    | _ => none

/-- What an operation does, in the state that T and B tell; k: free names. -/
def comp (k : Nat) (o : Oper) : M Eff :=
  match o.op with
  | .move x => .bind (.ofO (opv T x)) giveM
  | .assign x => .bind (.ofO (opv T x)) fun v => let p := settle E k o.type v; .ret ⟨p.1, p.2, []⟩
  | .pick c a b => .bind (.ofO (opB T c)) fun t => .ite t (.bind (.ofO (opv T a)) giveM) (.bind (.ofO (opv T b)) giveM)
  | .alloc t => .bind (.ofO (E.tt t)) fun d => match d.kind with
    | .array n z ty => .bind (.ofO (ofCells1 ty z)) fun z => .ret ⟨.s (.c (.ptr k 0)), [(k, .arr false ty (List.replicate n z))], []⟩
    | _ => .bind (.ofO d.zero) fun z => let p := fresh (k + 1) z; .ret ⟨.s (.c (.ptr k 0)), p.2 ++ [(k, .cells p.1)], []⟩
  | .box _ x => .bind (.ofO (opv T x)) fun v => .bind (.ofO (cellsOf v)) fun cs => .ret ⟨.s (.c (.ptr k 0)), [(k, .cells cs)], []⟩
  | .build t ps => .bind (.ofO (E.tt t)) fun d => match d.kind with
    | .struct fs => .bind (.ofO (partCells T ps.toList)) fun q => .bind (.ofO d.zero) fun z => let p := fresh k z; .bind (.ofO (fillC fs p.1 q)) fun cs => .ret ⟨.s (.agg cs), p.2, []⟩
    | _ => .fail
  | .buildSlice t n ps => .bind (.ofO (E.tt t)) fun d => match d.kind with
    | .slice _ _ ty => bif Nat.beq ps.size n && Nat.ble (n * ty.size) 16777216 then .bind (.ofO (partCells T ps.toList)) fun q => .bind (.ofO (elemsC B ty 0 q)) fun s => .ret ⟨.s (.c (.own k)), [(k, .arr false ty s.1)], s.2⟩ else .fail
    | _ => .fail
  | .load t x => .bind (.ofO (E.tt t)) fun d => .bind (.ofO (opv T x)) fun p => .bind (loadC B d p) giveM
  | .store t x y => .bind (.ofO (E.tt t)) fun d => .bind (.ofO (opv T x)) fun p => .bind (.ofO (opv T y)) fun v => .bind (.ofO (cellsOf v)) fun cs => .bind (storeC B d p cs) fun u => .ret ⟨.und, [], u⟩
  | .nilCheck x => .bind (.ofO (opv T x)) fun
    | .s (.c (.ptr b off)) => giveM (.s (.c (.ptr b off)))
    | .eptr cs off => giveM (.eptr cs off)
    | .aptr b i off => giveM (.aptr b i off)
    | _ => .fail
  | .binOp op t x y _ => .bind (.ofO (opv T x)) fun a => .bind (.ofO (opv T y)) fun b => .bind (bin (isBoolT E t) (E.eqs t) op a b) pureM
  | .unOp op _ x => match op with
    | .not => .bind (.ofO (opB T x)) fun b => pureM (.bool !b)
    | .neg => .bind (.ofO (opI T x)) fun a => pureM (.int a.1 (a.1.wrap (0 - a.2)))
    | _ => .fail
  | .convert s d x => convC E T B k s d x
  | .makeFunc fn fst caps => match fn with
    | .func f => bif Nat.beq fst.size 0 then .bind (.ofO (capsOf T caps.toList)) fun l => giveM (.s (.c (.fn f l))) else .fail
    | _ => .fail
  | .makeSlice t n c => .bind (.ofO (E.tt t)) fun d => match d.kind with
    | .slice ebytes z ty => .bind (.ofO (opI T n)) fun a => .bind (.ofO (opI T c)) fun b => .bind (.ofO (ofCells1 ty z)) fun e =>
      .ite (decide (0 ≤ a.2) && (decide (a.2 = b.2) && room a.2.toNat ebytes)) (.ret ⟨.s (.c (.own k)), [(k, .arr false ty (List.replicate a.2.toNat e))], []⟩) .fail
    | _ => .fail
  | .slice t x lo hi none => .bind (.ofO (E.tt t)) fun d => match d.kind with
    | .str => .bind (.ofO (opc T x)) fun c => .bind (sliceC T B none c lo hi) giveM
    | .slice _ _ ty => .bind (.ofO (opc T x)) fun c => .bind (sliceC T B (some ty) c lo hi) giveM
    | _ => .fail
  | .slice t x lo (some hi) (some y) => .bind (.ofO (E.tt t)) fun d => match d.kind with
    | .slice _ _ ty => .bind (.ofO (opc T x)) fun c => .bind (.ofO (opI T y)) fun a => .bind (slice3C T B ty c lo (some hi) a.2) giveM
    | _ => .fail
  | .fieldAddr t x f => .bind (.ofO (opv T x)) fun p => .bind (.ofO (fieldAddrC E B t f p)) giveM
  | .field t x f => .bind (.ofO (opv T x)) fun p => .bind (.ofO (fieldC E t f p)) giveM
  | .indexAddr t x i => .bind (.ofO (opI T i)) fun n => .bind (indexAddrC E T B t x n.2) giveM
  | .index t x i => .bind (.ofO (E.tt t)) fun d => match d.kind with
    | .str => .bind (.ofO (opI T i)) fun n => .bind (.ofO (opc T x)) fun
      | .v (.string s) => .ite (decide (0 ≤ n.2)) (.bind (.ofO s.data.toList[n.2.toNat]?) fun b => pureM (.int .u8 b.toNat)) .fail
      | _ => .fail
    | _ => .fail
  | .extract x i => .bind (.ofO (opv T x)) fun | .tup vs => .bind (.ofO vs[i]?) fun s => giveM (.s s) | _ => .fail
  | .call c => match c.callee with
    | .builtin b => bif Nat.beq c.args.size c.argTypes.size then builtinC E T B k b (c.args.toList.zip c.argTypes.toList) else .fail
    | .value f => .bind (.ofO (opc T f)) fun
      | .fn g caps => bif Nat.beq c.args.size c.argTypes.size then callC E T B k g caps (c.args.toList.zip c.argTypes.toList) else .fail
      | _ => .fail
    | _ => .fail
  | _ => .fail

end

def putAll : Tab BX → List (Nat × BX) → Tab BX
  | t, [] => t
  | t, p :: r => putAll (t.put p.1 p.2) r

def stride : Nat := 65536

/-- New boxes: their names are not in use. -/
def putNew : Tab BX → List (Nat × BX) → Option (Tab BX)
  | t, [] => some t
  | t, p :: r => match t.get p.1 with
    | none => putNew (t.put p.1 p.2) r
    | some _ => none

/-- What an operation looks at, and what it writes. -/
abbrev FP := List Nat × List Nat

def opLeads (T : Nat → Option CV) : List Operand → List Nat
  | [] => []
  | x :: r => match opv T x with
    | some v => v.leads ++ opLeads T r
    | none => opLeads T r

/-- What only hands a value on. -/
def passes : Op → Bool
  | .move _ => true
  | .assign _ => true
  | .extract _ _ => true
  | _ => false

def touch (E : Env) (T : Nat → Option CV) (B : Nat → Option BX) (o : Oper) : List Nat :=
  (bif passes o.op then [] else opLeads T o.op.operands.toList) ++ match o.op with
    | .call c => match c.callee with
      | .value f => match opc T f with
        | some (.fn g caps) => match argVs E T B g 0 (c.args.toList.zip c.argTypes.toList) with
          | some a => match lends B (leadsSVs (a.1 ++ caps.map fun b => SV.c (.ptr b 0))) with
            | some p => p.1
            | none => []
          | none => []
        | _ => []
      | _ => []
    | _ => []

def keys : List (Nat × BX) → List Nat
  | [] => []
  | p :: r => p.1 :: keys r

/-- One operation. -/
def evOp (E : Env) (o : Oper) (st : St) : M (St × FP) :=
  .bind (comp E st.tmps.get st.boxes.get (st.next + 64 * o.dst.getD st.nt) o) fun e =>
    .bind (.ofO (putNew (putAll st.boxes e.upd) e.new)) fun t =>
      let f : FP := (touch E st.tmps.get st.boxes.get o, keys e.upd ++ keys e.new)
      match o.dst with
      | some d => bif Nat.blt d st.nt then .ret ({ st with tmps := st.tmps.put d e.val, boxes := t }, f) else .fail
      | none => .ret ({ st with boxes := t }, f)

def skipOp (o : Oper) (st : St) : M (St × FP) :=
  match o.dst with
  | some d => bif Nat.blt d st.nt then .ret ({ st with tmps := st.tmps.put d .und }, ([], [])) else .fail
  | none => .ret (st, ([], []))

/-- An operation that is guarded by what temporary d holds: behind the test it is known. -/
def guarded (E : Env) (o : Oper) (d : Nat) (b : Bool) (st : St) : M (St × FP) :=
  match st.tmps.get d with
  | some (.s (.c (.v (.bool t)))) =>
    let yes := { st with tmps := st.tmps.put d (.s (.c (.v (.bool true)))) }
    let no := { st with tmps := st.tmps.put d (.s (.c (.v (.bool false)))) }
    bif b then .ite t (evOp E o yes) (skipOp o no) else .ite t (skipOp o yes) (evOp E o no)
  | some .und => skipOp o st
  | _ => .fail

def evIdx (E : Env) (ops : Array Oper) (i : Nat) (st : St) : M (St × FP) :=
  match ops[i]? with
  | none => .fail
  | some o => match o.guard with
    | none => evOp E o st
    | some (j, b) => match (ops[j]?).bind (·.dst) with
      | some d => guarded E o d b st
      | none => .fail

def evList (E : Env) (ops : Array Oper) : List Nat → St → M St
  | [], st => .ret st
  | i :: r, st => .bind (evIdx E ops i st) fun q => evList E ops r q.1

def bindsB (e : Edge) : Bool :=
  match e.ground with
  | .textOnly _ => false
  | .gcOnly _ => false
  | _ => true

def maskOf (ms : List Nat) : List Edge → Nat
  | [] => 0
  | e :: r => bif bindsB e then Nat.lor (Nat.lor (Nat.shiftLeft 1 e.on) (ms.getD e.on 0)) (maskOf ms r) else maskOf ms r

/-- What must come ahead of each operation, as the bits of a number. -/
def masks : List Oper → List Nat → List Nat
  | [], ms => ms
  | o :: r, ms => masks r (ms ++ [maskOf ms o.after.toList])

def bit (m j : Nat) : Bool := Nat.beq (Nat.land 1 (Nat.shiftRight m j)) 1

def disj (l : List Nat) : List Nat → Bool
  | [] => true
  | b :: r => !has l b && disj l r

/-- Either the one must come first, or their temporaries are apart. -/
def apartAt (ops : Array Oper) (ms : List Nat) (i j : Nat) : Bool :=
  bit (ms.getD i 0) j || (match ops[j]?, ops[i]? with
    | some x, some y => Oper.apart ops x y
    | _, _ => false)

def apartAll (ops : Array Oper) (ms : List Nat) : Bool :=
  (List.range ops.size).all fun i => (List.range i).all fun j => apartAt ops ms i j

def isNil : List Nat → Bool
  | [] => true
  | _ => false

/-- Either the one comes first, or it is all the same which does. -/
def calm (ms : List Nat) (i : Nat) (f : FP) (p : Nat × FP) : Bool :=
  (isNil f.2 && isNil p.2.2) || (bit (ms.getD i 0) p.1 || (disj p.2.2 f.1 && (disj p.2.2 f.2 && disj p.2.1 f.2)))

/-- What must come ahead of an operation stands ahead of it. -/
def backs : List Oper → Nat → Bool
  | [], _ => true
  | o :: r, i => (o.after.toList.all fun e => !bindsB e || Nat.blt e.on i) && backs r (i + 1)

def evDraw (E : Env) (ops : Array Oper) (ms : List Nat) : List Nat → List (Nat × FP) → St → M St
  | [], _, st => .ret st
  | i :: r, seen, st => .bind (evIdx E ops i st) fun q => bif seen.all (calm ms i q.2) then evDraw E ops ms r (seen ++ [(i, q.2)]) q.1 else .fail

/-- Of a state that is told anew the values alone are kept. -/
def kept (t : Tab CV) : List Nat → Tab CV
  | [] => []
  | s :: r => match t.get s with
    | some (.s v) => (s, .s v) :: kept t r
    | _ => kept t r

def leadsTab : Tab CV → List Nat
  | [] => []
  | p :: r => p.2.leads ++ leadsTab r

def renTab (f : Nat → Nat) : Tab CV → Tab CV
  | [] => []
  | p :: r => (p.1, p.2.ren f) :: renTab f r

def number (i : Nat) : List BX → Tab BX
  | [] => []
  | x :: r => (i, x) :: number (i + 1) r

def firstName : Nat := 1024

/-- A state of which only these temporaries are wanted: told anew, with names of its own. -/
def canon (keep : List Nat) (st : St) : M St :=
  let t := kept st.tmps keep
  .bind (.ofO (lends st.boxes.get (List.range st.lent ++ leadsTab t))) fun p =>
  bif Nat.blt p.1.length firstName && begins st.lent 0 p.1 then .ret { nt := st.nt, lent := st.lent, tmps := renTab (place p.1) t, boxes := number 0 p.2, next := firstName } else .fail

def evOps (E : Env) (ops : Array Oper) (draw : Bool) (st : St) : M St :=
  .bind (bif draw then (bif backs ops.toList 0 && apartAll ops (masks ops.toList []) then evDraw E ops (masks ops.toList []) (List.range ops.size) [] st else .fail) else evList E ops (List.range ops.size) st) fun st => .ret { st with next := st.next + stride }

/-- The first region's number. -/
def firstId : Code → Nat
  | .region id _ _ => id
  | .seq a b => match firstId a with
    | 0 => firstId b
    | n + 1 => n + 1
  | .cond _ a b => match firstId a with
    | 0 => firstId b
    | n + 1 => n + 1
  | .block _ c => firstId c
  | .loop c => firstId c
  | _ => 0

/-- A state told anew, if that is asked. -/
def recan (k : Option (List Nat)) (st : St) : M St :=
  match k with
  | some keep => canon keep st
  | none => .ret st

inductive Ex where
  | normal
  | exit (id : Nat)
  | ret

/-- Code; 'again': what a loop does, round by round (false), or what follows where ways meet (true). -/
def evCode (E : Env) (again : Bool → Code → St → M (Ex × St)) : Code → St → M (Ex × St)
  | .skip, st => .ret (.normal, st)
  | .region _ ops draw, st => .bind (evOps E ops draw st) fun st => .ret (.normal, st)
  | .seq a b, st => .bind (evCode E again a st) fun r => match r.1 with
    | .normal => match E.join (firstId b) with
      | some keep => .bind (canon keep r.2) (again true b)
      | none => evCode E again b r.2
    | x => .ret (x, r.2)
  | .cond c a b, st => .bind (.ofO (opB st.tmps.get c)) fun t => .ite t (evCode E again a st) (evCode E again b st)
  | .block id c, st => .bind (evCode E again c st) fun r => match r.1 with
    | .exit j => bif Nat.beq j id then .ret (.normal, r.2) else .ret r
    | _ => .ret r
  | .loop c, st => .bind (recan (E.ann (firstId c)) st) (again false c)
  | .exit id, st => .ret (.exit id, st)
  | .label _, st => .ret (.normal, st)
  | .ret, st => .ret (.ret, st)
  | _, _ => .fail

/-- A loop's round, and what follows. -/
def round (E : Env) (again : Bool → Code → St → M (Ex × St)) (c : Code) (st : St) : M (Ex × St) :=
  .bind (evCode E again c st) fun r => match r.1 with
    | .normal => .bind (recan (E.ann (firstId c)) r.2) (again false c)
    | x => .bind (recan (E.out (firstId c)) r.2) fun s => .ret (x, s)

/-- What follows where ways meet. -/
def follow (E : Env) (again : Bool → Code → St → M (Ex × St)) (c : Code) (st : St) : M (Ex × St) :=
  .bind (evCode E again c st) fun r => .bind (recan (E.jout (firstId c)) r.2) fun s => .ret (r.1, s)

def evStep (E : Env) (again : Bool → Code → St → M (Ex × St)) (j : Bool) (c : Code) (st : St) : M (Ex × St) :=
  match j with
  | true => follow E again c st
  | false => round E again c st

/-- A loop's rounds, at most k. -/
def evLoop (E : Env) : Nat → Bool → Code → St → M (Ex × St)
  | 0, _, _, _ => .fail
  | k + 1, j, c, st => evStep E (evLoop E k) j c st

def resultOf (E : Env) (st : St) : ResultVar → Option SV
  | .tmp t => match st.tmps.get t with | some (.s x) => some x | _ => none
  | .cell a t => (E.tt t).bind fun d => match st.tmps.get a with
    | some (.s (.c (.ptr b off))) => match st.boxes.get b with
      | some (.cells cs) => match pickCells d cs off with | some (.s x) => some x | _ => none
      | _ => none
    | _ => none

def resultsOf (E : Env) (st : St) : List ResultVar → Option (List SV)
  | [] => some []
  | r :: l => (resultOf E st r).bind fun v => (resultsOf E st l).map fun q => v :: q

abbrev Cast := Option (Bool × Ty)

/-- How a result's cell is told: as it is, as a row that will not change any more (false), as a box of its own (true). -/
def castC (B : Tab BX) (k : Nat) : Cast → Cell → Option (Cell × Tab BX)
  | none, c => some (c, B)
  | some (false, ty), c => match c with
    | .v (.slice none 0 0) => some (.row ty [], B)
    | .row ty' xs => (castRow ty' ty xs).map fun ys => (.row ty ys, B)
    | .own b => match B.get b with
      | some (.arr _ ty' xs) => (castRow ty' ty xs).map fun ys => (.row ty ys, B.put b (.arr true ty' xs))
      | _ => none
    | .view b off n => match B.get b with
      | some (.arr _ ty' xs) => (castRow ty' ty ((xs.drop off).take n)).map fun ys => (.row ty ys, B.put b (.arr true ty' xs))
      | _ => none
    | _ => none
  | some (true, ty), c => match c with
    | .v (.slice none 0 0) => match B.get k with
      | none => some (.own k, B.put k (.arr false ty []))
      | some _ => none
    | .own b => some (.own b, B)
    | _ => none

def castCs : Tab BX → Nat → List Cast → List Cell → Option (List Cell × Tab BX)
  | B, _, _, [] => some ([], B)
  | B, k, qs, c :: r => (castC B k (qs.headD none) c).bind fun p => (castCs p.2 (k + 1) qs.tail r).map fun q => (p.1 :: q.1, q.2)

def castSV (B : Tab BX) (k : Nat) (qs : List Cast) : SV → Option (SV × Tab BX)
  | .c c => (castC B k (qs.headD none) c).map fun p => (.c p.1, p.2)
  | .agg cs => (castCs B k qs cs).map fun p => (.agg p.1, p.2)

def castSVs : Tab BX → Nat → List (List Cast) → List SV → Option (List SV × Tab BX)
  | B, _, _, [] => some ([], B)
  | B, k, qs, x :: r => (castSV B k (qs.headD []) x).bind fun p => (castSVs p.2 (k + 64) qs.tail r).map fun q => (p.1 :: q.1, q.2)

def leave (E : Env) (fn : Func) (st : St) : Option (List SV × List BX) :=
  (resultsOf E st fn.results.toList).bind fun vs => (castSVs st.boxes st.next E.cast vs).bind fun q =>
    (lends q.2.get (List.range st.lent ++ leadsSVs q.1)).bind fun p => bif begins st.lent 0 p.1 then some (renSVs (place p.1) q.1, p.2) else none

def slots (i : Nat) : List SV → Tab CV
  | [] => []
  | x :: r => (i, .s x) :: slots (i + 1) r

/-- A function. -/
def evFnJ (E : Env) (again : Bool → Code → St → M (Ex × St)) (fn : Func) (c : Code) (vs : List SV) (bs : List BX) : M (List SV × List BX) :=
  bif Nat.ble vs.length fn.ntmps && Nat.blt bs.length firstName then
    .bind (evCode E again c { nt := fn.ntmps, lent := bs.length, tmps := slots 0 vs, boxes := number 0 bs, next := firstName }) fun r => match r.1 with
      | .normal => .ofO (leave E fn r.2)
      | .ret => .ofO (leave E fn r.2)
      | _ => .fail
  else .fail

/-- A function, with at most k rounds of each loop. -/
def evFn (E : Env) (k : Nat) (fn : Func) (c : Code) (vs : List SV) (bs : List BX) : M (List SV × List BX) := evFnJ E (evLoop E k) fn c vs bs

end Go.Proofs.YtfgkcnoiplojkaaDoor.VI
