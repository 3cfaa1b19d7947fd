/- From the model's code to the evaluator's: a function, so that the kernel can say of each function of a program what it gives. -/
import Derived.Test.YtdalcnjdpfnjjaaGreatDoorEvA
import GoSem.Core.Region
import GoSem.Step
namespace Go.Ev
open Go

def leafV : Value → Option V
  | .bool b => some (.bool b)
  | .int k n => some (.int k n)
  | .string s => some (.str (ofBytes s))
  | .pointer none => some .nilp
  | .slice none 0 0 => some .nils
  | .nilFunc => some .nilFn
  | .nilIface => some .nilI
  | .map none => some .nilm
  | _ => none
def leavesV : List Value → Option (List V)
  | [] => some []
  | v :: vs => match leafV v, leavesV vs with
    | some a, some as => some (a :: as)
    | _, _ => none
def constV : Value → Option V
  | .agg cs => (leavesV cs.toList).map .agg
  | v => leafV v

def opnd (g : Nat) : Operand → Option EO
  | .tmp t => some (.t t)
  | .const v => (constV v).map .c
  | .global k => if k < g then some (.c (.ptr k 0)) else none
  | .func f => some (.c (.fn f [] []))
def opnds (g : Nat) : List Operand → Option (List EO)
  | [] => some []
  | x :: xs => match opnd g x, opnds g xs with
    | some a, some as => some (a :: as)
    | _, _ => none
def opnd? (g : Nat) : Option Operand → Option (Option EO)
  | none => some none
  | some x => (opnd g x).map some

def zeroCs (P : Program) (t : TypeId) : Option (List V) :=
  match (P.info? t).bind (·.zero) with
  | some z => match constV z with
    | some v => if v.cells.length = P.cellsOf t ∧ 0 < P.cellsOf t ∧ v.cells.all V.isCell = true then some v.cells else none
    | none => none
  | none => none
def zeroV (P : Program) (t : TypeId) : Option V := ((P.info? t).bind (·.zero)).bind constV
def aggOf (P : Program) (t : TypeId) : Option Bool :=
  match P.underlying t with
  | some (.struct _) | some (.array _ _) => some true
  | some _ => some false
  | none => none

/-- The parts of a struct: offset, size. -/
def placeS (P : Program) (fs : Array Field) (i : Nat) : Option (Nat × Nat) :=
  match fs[i]? with
  | some f => match P.info? f.type with
    | some _ => some (f.offset, P.cellsOf f.type)
    | none => none
  | none => none
def partsS (P : Program) (fs : Array Field) : List (Nat × Operand) → Option (List (Nat × Nat × EO))
  | [] => some []
  | (i, x) :: r => match placeS P fs i, opnd P.globals.size x, partsS P fs r with
    | some (o, s), some a, some as => some ((o, s, a) :: as)
    | _, _, _ => none
def partsA (P : Program) (size : Nat) : List (Nat × Operand) → Option (List (Nat × Nat × EO))
  | [] => some []
  | (i, x) :: r => match opnd P.globals.size x, partsA P size r with
    | some a, some as => some ((i * size, size, a) :: as)
    | _, _ => none

/-- Values of this type are compared cell by cell: of which kind each cell is; the fields lie one behind the other. -/
def leafFs (P : Program) (leafKs : TypeId → Option (List Nat)) : List Field → Nat → Option (List Nat)
  | [], _ => some []
  | f :: fs, o =>
    match leafKs f.type, leafFs P leafKs fs (o + P.cellsOf f.type) with
    | some ks, some r => if f.name ≠ "_" ∧ f.offset = o ∧ ks.length = P.cellsOf f.type then some (ks ++ r) else none
    | _, _ => none
def leafKs (P : Program) : Nat → TypeId → Option (List Nat)
  | 0, _ => none
  | d + 1, t => match P.underlying t with
    | some .bool => if P.cellsOf t = 1 then some [0] else none
    | some (.int _) => if P.cellsOf t = 1 then some [1] else none
    | some .string => if P.cellsOf t = 1 then some [2] else none
    | some (.struct fs) => if P.stoodInHeld t = false then leafFs P (leafKs P d) fs.toList 0 else none
    | _ => none

def binK (P : Program) (op : BinOp) (t : TypeId) (x y : EO) : Option EOp :=
  match P.underlying t with
  | some (.int _) => some (.ibin op x y)
  | some .string => some (.sbin op x y)
  | some .bool => match op with
    | .eql => some (.beq false x y)
    | .neq => some (.beq true x y)
    | _ => none
  | some (.pointer _) => match op with
    | .eql => some (.neq0 false 0 x y)
    | .neq => some (.neq0 true 0 x y)
    | _ => none
  | some (.slice _) => match op with
    | .eql => some (.neq0 false 1 x y)
    | .neq => some (.neq0 true 1 x y)
    | _ => none
  | some (.func _ _ _) => match op with
    | .eql => some (.neq0 false 2 x y)
    | .neq => some (.neq0 true 2 x y)
    | _ => none
  | some (.struct _) => match leafKs P 20 t with
    | some ks => if P.eqGuardType P.depth t = false then match op with
        | .eql => some (.aeq false ks x y)
        | .neq => some (.aeq true ks x y)
        | _ => none
      else none
    | none => none
  | _ => none

def compCall (P : Program) (pure : FuncId → Bool) (c : Call) : Option EOp :=
  match c.callee with
  | .value (.func f) => match P.funcs[f]?, opnds P.globals.size c.args.toList with
    | some fn, some args => if fn.body.isSome && fn.name != "runtime.NumGoroutine" then some (if pure f then .pcall f args else .call f args) else none
    | _, _ => none
  | .value x => match opnd P.globals.size x, opnds P.globals.size c.args.toList with
    | some x, some args => some (.callv x args)
    | _, _ => none
  | .invoke _ _ => none
  | .builtin b => match b with
    | .append => match c.args.toList, (c.argTypes[0]?).bind P.underlying, (c.argTypes[1]?).bind P.underlying with
      | [s, x], some (.slice e), some (.int _) => match opnd P.globals.size s, opnd P.globals.size x, P.info? e, zeroCs P e with
        | some s, some x, some i, some z => some (.appZ i.size i.bytes z s x)
        | _, _, _, _ => none
      | [s, x], some (.slice e), some _ => match opnd P.globals.size s, opnd P.globals.size x, P.info? e, zeroCs P e with
        | some s, some x, some i, some _ => some (.app i.size i.bytes s x)
        | _, _, _, _ => none
      | _, _, _ => none
    | .len => match c.args.toList, (c.argTypes[0]?).bind P.underlying with
      | [x], some (.array n _) => match opnd P.globals.size x with
        | some _ => some (.mv (.c (.int .i64 n)))
        | none => none
      | [x], some .string => (opnd P.globals.size x).map .lenS
      | [x], some (.slice _) => (opnd P.globals.size x).map .len
      | _, _ => none
    | .cap => match c.args.toList, (c.argTypes[0]?).bind P.underlying with
      | [x], some (.slice _) => (opnd P.globals.size x).map .cap
      | _, _ => none
    | .copy => match c.args.toList, (c.argTypes[0]?).bind P.underlying with
      | [d, s], some (.slice e) => match opnd P.globals.size d, opnd P.globals.size s, P.info? e with
        | some d, some s, some i => if 0 < i.size then some (.copy i.size d s) else none
        | _, _, _ => none
      | _, _ => none
    | .clear => match c.args.toList, (c.argTypes[0]?).bind P.underlying with
      | [x], some (.slice e) => match opnd P.globals.size x, zeroCs P e with
        | some x, some z => some (.clr (P.cellsOf e) z x)
        | _, _ => none
      | _, _ => none
    | .max => (opnds P.globals.size c.args.toList).map .mx
    | .min => (opnds P.globals.size c.args.toList).map .mn
    | _ => none

def compOp (P : Program) (pure : FuncId → Bool) (op : Op) : Option EOp :=
  match op with
  | .move x | .assign x => (opnd P.globals.size x).map .mv
  | .pick c a b => match opnd P.globals.size c, opnd P.globals.size a, opnd P.globals.size b with
    | some c, some a, some b => some (.pick c a b)
    | _, _, _ => none
  | .alloc t => (zeroCs P t).map .new
  | .box t x => match opnd P.globals.size x, P.info? t with
    | some x, some i => if 0 < i.size then some (.box x) else none
    | _, _ => none
  | .build t parts => match P.underlying t, zeroCs P t with
    | some (.struct fs), some z => if fs.toList.all fun f => (P.info? f.type).isSome then (partsS P fs parts.toList).map (.build z ·) else none
    | some (.array _ e), some z => if 0 < P.cellsOf e then (partsA P (P.cellsOf e) parts.toList).map (.build z ·) else none
    | _, _ => none
  | .buildSlice t n parts => match P.underlying t with
    | some (.slice e) => match zeroCs P e with
      | some z => if n * P.cellsOf e ≤ 2 ^ 24 then (partsA P (P.cellsOf e) parts.toList).map (.bslice (P.cellsOf e) n (rep n z) ·) else none
      | none => none
    | _ => none
  | .load t a => match aggOf P t, opnd P.globals.size a with
    | some true, some a => if 0 < P.cellsOf t then some (.ldn (P.cellsOf t) a) else none
    | some false, some a => some (.ld1 a)
    | _, _ => none
  | .store t a v => match opnd P.globals.size a, opnd P.globals.size v, P.info? t with
    | some a, some v, some i => if 0 < i.size then some (.st i.size a v) else none
    | _, _, _ => none
  | .nilCheck x => (opnd P.globals.size x).map .nilchk
  | .binOp op t x y _ => match opnd P.globals.size x, opnd P.globals.size y with
    | some x, some y => binK P op t x y
    | _, _ => none
  | .unOp op _ x => (opnd P.globals.size x).map (.un op)
  | .convert s d x => match P.underlying s, P.underlying d, opnd P.globals.size x with
    | some (.int _), some (.int k), some x => some (.cvI k x)
    | some .string, some .string, some x => some (.cvSS x)
    | some .string, some (.slice e), some x => match P.underlying e with
      | some (.int .u8) => if P.cellsOf e = 1 then some (.cvSB x) else none
      | _ => none
    | some (.slice _), some (.slice e), some x => if s == d then match P.underlying e with
      | some (.int .u8) => some (.cvLL x)
      | _ => none
      else none
    | some (.slice e), some .string, some x => match P.underlying e with
      | some (.int .u8) => some (.cvBS x)
      | some (.int .i32) => some (.cvRS x)
      | _ => none
    | _, _, _ => none
  | .makeInterface t x => match P.underlying t, opnd P.globals.size x with
    | some (.interface _), _ => none
    | some _, some x => some (.mkI t x)
    | _, _ => none
  | .makeFunc fn first cap => match fn with
    | .func f => match opnds P.globals.size first.toList, opnds P.globals.size cap.toList with
      | some a, some b => some (.mkF f a b)
      | _, _ => none
    | _ => none
  | .makeSlice t l c => match P.underlying t with
    | some (.slice e) => match opnd P.globals.size l, opnd P.globals.size c, zeroCs P e, P.info? e with
      | some l, some c, some z, some i => some (.mkSlice i.size i.bytes z l c)
      | _, _, _, _ => none
    | _ => none
  | .slice t x lo hi mx => match P.underlying t, opnd P.globals.size x, opnd? P.globals.size lo, opnd? P.globals.size hi, opnd? P.globals.size mx with
    | some .string, some x, some lo, some hi, some none => some (.slS x lo hi)
    | some (.slice e), some x, some lo, some hi, some mx => if 0 < P.cellsOf e && !(hi.isNone && mx.isSome) then some (.slL (P.cellsOf e) x lo hi mx) else none
    | some (.array n e), some x, some lo, some hi, some mx => if 0 < P.cellsOf e && !(hi.isNone && mx.isSome) then some (.slA (P.cellsOf e) n x lo hi mx) else none
    | _, _, _, _, _ => none
  | .fieldAddr t x f => match P.underlying t, opnd P.globals.size x with
    | some (.struct fs), some x => match fs[f]? with
      | some fd => if 0 < P.cellsOf fd.type then some (.fa fd.offset x) else none
      | none => none
    | _, _ => none
  | .field t x f => match P.underlying t, opnd P.globals.size x with
    | some (.struct fs), some x => match fs[f]? with
      | some fd => match aggOf P fd.type with
        | some true => if 0 < P.cellsOf fd.type then some (.fldn fd.offset (P.cellsOf fd.type) x) else none
        | some false => some (.fld1 fd.offset x)
        | none => none
      | none => none
    | _, _ => none
  | .indexAddr t x i => match P.underlying t, opnd P.globals.size x, opnd P.globals.size i with
    | some (.slice e), some x, some i => if 0 < P.cellsOf e then some (.ia (P.cellsOf e) x i) else none
    | some (.array n e), some x, some i => if 0 < P.cellsOf e then some (.iaA (P.cellsOf e) n x i) else none
    | _, _, _ => none
  | .index t x i => match P.underlying t, opnd P.globals.size x, opnd P.globals.size i with
    | some .string, some x, some i => some (.ixS x i)
    | some (.array n e), some x, some i => match aggOf P e with
      | some true => if 0 < P.cellsOf e then some (.ixAn (P.cellsOf e) n x i) else none
      | some false => if 0 < P.cellsOf e then some (.ixA1 (P.cellsOf e) n x i) else none
      | none => none
    | _, _, _ => none
  | .range t x => match P.underlying t, opnd P.globals.size x with
    | some .string, some x => some (.rngS x)
    | _, _ => none
  | .next it true => (opnd P.globals.size it).map .next
  | .typeAssert x _ t ok => match P.underlying t, opnd P.globals.size x, zeroV P t with
    | some (.interface _), _, _ => none
    | some _, some x, some z => some (.tas t z ok x)
    | _, _, _ => none
  | .extract x i => (opnd P.globals.size x).map (.ext · i)
  | .call c => compCall P pure c
  | .panic _ => some .bad
  | _ => none

/-- Do all places that are written lie below 'nt'? -/
def fitsL (nt : Nat) : List EOper → Bool
  | [] => true
  | o :: r => (match o.dst with | some d => decide (d < nt) | none => true) && fitsL nt r
def fits (nt : Nat) : EC → Bool
  | .ops l => fitsL nt l
  | .draw _ l => fitsL nt l
  | .seq a b => fits nt a && fits nt b
  | .cond _ a b => fits nt a && fits nt b
  | .block _ b => fits nt b
  | .loop b => fits nt b
  | _ => true

/-- The guard of an operation: a temporary. -/
def compGuard (ops : Array Oper) : Option (Nat × Bool) → Option (Option (Nat × Bool))
  | none => some none
  | some (j, b) => match (ops[j]?).bind (·.dst) with
    | some t => some (some (t, b))
    | none => none

def compPlain (P : Program) (pure : FuncId → Bool) (ops : Array Oper) : List Oper → Option (List EOper)
  | [] => some []
  | o :: r => match compOp P pure o.op, compGuard ops o.guard, compPlain P pure ops r with
    | some e, some g, some es => some ({ dst := o.dst, guard := g, op := e } :: es)
    | _, _, _ => none

/-- Which of the operations are loud, by number. -/
def loudsOf : List EOper → Nat → List Nat
  | [], _ => []
  | o :: r, i => if o.op.loud then i :: loudsOf r (i + 1) else loudsOf r (i + 1)
/-- One more than the place of the last loud operation that must come ahead. -/
def lastBefore (s : Nat) : List Nat → Nat
  | [] => 0
  | j :: r => if lastBefore s r = 0 then (if s.testBit j then 1 else 0) else lastBefore s r + 1
/-- The place of the first loud operation that must come behind. -/
def firstAfter (b : Array Nat) (i : Nat) : List Nat → Nat
  | [] => 0
  | j :: r => if (b.getD j 0).testBit i then 0 else firstAfter b i r + 1
def withPlaces (b : Array Nat) (louds : List Nat) : List EOper → Nat → List EOper
  | [], _ => []
  | o :: r, i => { o with lo := lastBefore (b.getD i 0) louds, hi := firstAfter b i louds, slot := i } :: withPlaces b louds r (i + 1)
def chainB (b : Array Nat) : List Nat → Bool
  | i :: j :: r => (b.getD j 0).testBit i && chainB b (j :: r)
  | _ => true
/-- The temporaries that an operation names. -/
def EOper.names (o : EOper) : List Nat :=
  (o.op.eos.filterMap fun x => match x with | .t n => some n | .c _ => none) ++ o.dst.toList ++ (match o.guard with | some g => [g.1] | none => [])
/-- Whoever names a temporary that another one writes is ordered with it. -/
def tempsOk (b : Array Nat) (l : List EOper) : Bool :=
  l.zipIdx.all fun (oi, i) => l.zipIdx.all fun (oj, j) => match oj.dst with
    | some t => i == j || !(oi.names.contains t) || (b.getD (max i j) 0).testBit (min i j)
    | none => true
def edgesOk (ops : Array Oper) : Bool := ops.toList.zipIdx.all fun (o, i) => o.after.all fun e => !(Region.binds .any e) || decide (e.on < i)

def comp (P : Program) (pure : FuncId → Bool) : Code → Option EC
  | .skip => some .skip
  | .region _ ops false => (compPlain P pure ops ops.toList).map .ops
  | .region _ ops true => match compPlain P pure ops ops.toList with
    | some l =>
      let b := Region.before ops
      let louds := loudsOf l 0
      if chainB b louds && tempsOk b l && edgesOk ops then some (.draw ops.size (withPlaces b louds l 0)) else none
    | none => none
  | .seq a b => match comp P pure a, comp P pure b with
    | some a, some b => some (.seq a b)
    | _, _ => none
  | .cond c a b => match opnd P.globals.size c, comp P pure a, comp P pure b with
    | some c, some a, some b => some (.cond c a b)
    | _, _, _ => none
  | .block id b => (comp P pure b).map (.block id)
  | .loop b => (comp P pure b).map .loop
  | .exit id => some (.exit id)
  | .scope b => comp P pure b
  | .ret => some .ret
  | _ => none

def compRes (P : Program) : List ResultVar → Option (List ERes)
  | [] => some []
  | .tmp t :: r => (compRes P r).map (.t t :: ·)
  | .cell a t :: r => match aggOf P t, compRes P r with
    | some true, some rs => if 0 < P.cellsOf t then some (.cn a (P.cellsOf t) :: rs) else none
    | some false, some rs => some (.c1 a :: rs)
    | _, _ => none

def compF (P : Program) (pure : FuncId → Bool) (f : FuncId) (fn : Func) : Option EFunc :=
  match fn.body with
  | some c => match comp P pure c, compRes P fn.results.toList with
    | some b, some r => if fn.name ≠ "runtime.NumGoroutine" ∧ fits fn.ntmps b = true then some { nt := fn.ntmps, pure := pure f, body := b, res := r } else none
    | _, _ => none
  | none => none

end Go.Ev
