/- The evaluator: abstract values, a heap of numbered blocks, compiled code, and its run with fuel. No program in sight. -/
import GoSem.Dispatch
namespace Go.Ev
open Go

/-- A map from numbers to things, as a binary tree. -/
inductive T (α : Type) where
  | nil
  | node (o : Option α) (l r : T α)

namespace T
variable {α : Type}
def get : T α → Nat → Option α
  | .nil, _ => none
  | .node o l r, n => if n = 0 then o else if n % 2 = 1 then l.get (n / 2) else r.get (n / 2 - 1)
def mk (v : α) : Nat → Nat → T α
  | 0, _ => .node (some v) .nil .nil
  | f + 1, n => if n = 0 then .node (some v) .nil .nil else if n % 2 = 1 then .node none (mk v f (n / 2)) .nil else .node none .nil (mk v f (n / 2 - 1))
def set (v : α) : T α → Nat → T α
  | .nil, n => mk v n n
  | .node o l r, n => if n = 0 then .node (some v) l r else if n % 2 = 1 then .node o (set v l (n / 2)) r else .node o l (set v r (n / 2 - 1))

theorem get_mk (v : α) : ∀ (f n j : Nat), n ≤ f → (mk v f n).get j = if n = j then some v else none
  | 0, n, j, h => by
    obtain rfl : n = 0 := by omega
    simp only [mk, get]
    by_cases hj : j = 0
    · simp [hj]
    · have : ¬ (0 : Nat) = j := fun e => hj e.symm
      simp [hj, this]
  | f + 1, n, j, h => by
    simp only [mk]
    by_cases hn : n = 0
    · subst hn
      simp only [if_true, get]
      by_cases hj : j = 0
      · simp [hj]
      · have : ¬ (0 : Nat) = j := fun e => hj e.symm
        simp [hj, this]
    · simp only [hn, if_false]
      by_cases hp : n % 2 = 1
      · simp only [hp, if_true, get]
        by_cases hj : j = 0
        · simp [hj]; omega
        · simp only [hj, if_false]
          by_cases hq : j % 2 = 1
          · simp only [hq, if_true]
            rw [get_mk v f _ _ (by omega)]
            by_cases e : n = j
            · simp [e]
            · have : ¬ n / 2 = j / 2 := by omega
              simp [e, this]
          · simp only [hq, if_false]
            have : ¬ n = j := by omega
            simp [this]
      · simp only [hp, if_false, get]
        by_cases hj : j = 0
        · simp [hj]; omega
        · simp only [hj, if_false]
          by_cases hq : j % 2 = 1
          · simp only [hq, if_true]
            have : ¬ n = j := by omega
            simp [this]
          · simp only [hq, if_false]
            rw [get_mk v f _ _ (by omega)]
            by_cases e : n = j
            · simp [e]
            · have : ¬ n / 2 - 1 = j / 2 - 1 := by omega
              simp [e, this]

theorem get_set (v : α) : ∀ (t : T α) (n j : Nat), (t.set v n).get j = if n = j then some v else t.get j
  | .nil, n, j => by simp only [set]; rw [get_mk v n n j (Nat.le_refl _)]; simp [get]
  | .node o l r, n, j => by
    simp only [set]
    by_cases hn : n = 0
    · subst hn
      simp only [if_true, get]
      by_cases hj : j = 0
      · simp [hj]
      · have : ¬ (0 : Nat) = j := fun e => hj e.symm
        simp [hj, this]
    · simp only [hn, if_false]
      by_cases hp : n % 2 = 1
      · simp only [hp, if_true, get]
        by_cases hj : j = 0
        · have : ¬ n = j := by omega
          simp [hj, hn]
        · simp only [hj, if_false]
          by_cases hq : j % 2 = 1
          · simp only [hq, if_true]
            rw [get_set v l]
            by_cases e : n = j
            · simp [e]
            · have : ¬ n / 2 = j / 2 := by omega
              simp [e, this]
          · simp only [hq, if_false]
            have : ¬ n = j := by omega
            simp [this]
      · simp only [hp, if_false, get]
        by_cases hj : j = 0
        · simp [hj, hn]
        · simp only [hj, if_false]
          by_cases hq : j % 2 = 1
          · simp only [hq, if_true]
            have : ¬ n = j := by omega
            simp [this]
          · simp only [hq, if_false]
            rw [get_set v r]
            by_cases e : n = j
            · simp [e]
            · have : ¬ n / 2 - 1 = j / 2 - 1 := by omega
              simp [e, this]
theorem get_nil (j : Nat) : (T.nil : T α).get j = none := rfl
end T

/-- Abstract values. 'ptr i o': cell o of block i. 'sl i o n es full': n elements of es cells each from cell o of block i on; full: the capacity is n. -/
inductive V where
  | bool (b : Bool)
  | int (k : IntKind) (n : Int)
  | str (s : List Nat)
  | nilp
  | ptr (i o : Nat)
  | nils
  | sl (i o n es : Nat) (full : Bool)
  | fn (f : FuncId) (first cap : List V)
  | nilFn
  | iface (t : TypeId) (v : V)
  | nilI
  | nilm
  | map (i : Nat)
  | agg (cs : List V)
  | tup (vs : List V)

namespace V
def undef : V := .tup []
def cells : V → List V
  | .agg cs => cs
  | v => [v]
def isCell : V → Bool
  | .agg _ | .tup _ => false
  | _ => true
mutual
def beq : V → V → Bool
  | .bool a, .bool b => a == b
  | .int k a, .int l b => decide (k = l) && decide (a = b)
  | .str a, .str b => a == b
  | .nilp, .nilp => true
  | .ptr i o, .ptr j p => i == j && o == p
  | .nils, .nils => true
  | .sl i o n es f, .sl j p m es' f' => i == j && o == p && n == m && es == es' && f == f'
  | .fn f a b, .fn g c d => f == g && beqs a c && beqs b d
  | .nilFn, .nilFn => true
  | .iface t v, .iface u w => t == u && beq v w
  | .nilI, .nilI => true
  | .nilm, .nilm => true
  | .map i, .map j => i == j
  | .agg a, .agg b => beqs a b
  | .tup a, .tup b => beqs a b
  | _, _ => false
def beqs : List V → List V → Bool
  | [], [] => true
  | a :: as, b :: bs => beq a b && beqs as bs
  | _, _ => false
end
mutual
/-- No number of a block stands in it. -/
def ground : V → Bool
  | .ptr _ _ | .sl _ _ _ _ _ | .map _ => false
  | .fn _ a b => grounds a && grounds b
  | .iface _ v => ground v
  | .agg a => grounds a
  | .tup a => grounds a
  | _ => true
def grounds : List V → Bool
  | [] => true
  | a :: as => ground a && grounds as
end
end V

inductive Obj where
  | cells (ro : Bool) (cs : List V)
  | sit (s : List Nat) (pos : Nat)
  | map (es : List (V × V))
  | dead

structure Heap where
  next : Nat
  t : T Obj

namespace Heap
def get (H : Heap) (i : Nat) : Obj := (H.t.get i).getD .dead
def set (H : Heap) (i : Nat) (o : Obj) : Heap := { next := H.next, t := H.t.set o i }
def alloc (H : Heap) (o : Obj) : Heap := { next := H.next + 1, t := H.t.set o H.next }
/-- Room for k blocks. -/
def skip (H : Heap) (k : Nat) : Heap := { next := H.next + k, t := H.t }
theorem get_set (H : Heap) (i j : Nat) (o : Obj) : (H.set i o).get j = if i = j then o else H.get j := by
  simp only [get, set, T.get_set]; by_cases h : i = j <;> simp [h]
theorem get_alloc (H : Heap) (j : Nat) (o : Obj) : (H.alloc o).get j = if H.next = j then o else H.get j := by
  simp only [get, alloc, T.get_set]; by_cases h : H.next = j <;> simp [h]
theorem next_set (H : Heap) (i : Nat) (o : Obj) : (H.set i o).next = H.next := rfl
theorem next_alloc (H : Heap) (o : Obj) : (H.alloc o).next = H.next + 1 := rfl
theorem get_skip (H : Heap) (k j : Nat) : (H.skip k).get j = H.get j := rfl
theorem next_skip (H : Heap) (k : Nat) : (H.skip k).next = H.next + k := rfl
end Heap

abbrev Fr := T V

inductive EO where
  | t (n : Nat)
  | c (v : V)

def ev (fr : Fr) : EO → V
  | .t n => (fr.get n).getD V.undef
  | .c v => v

inductive EOp where
  | mv (x : EO)
  | pick (c a b : EO)
  | new (zero : List V)
  | box (x : EO)
  | build (zero : List V) (parts : List (Nat × Nat × EO))
  | bslice (es n : Nat) (zero : List V) (parts : List (Nat × Nat × EO))
  | ld1 (a : EO)
  | ldn (n : Nat) (a : EO)
  | st (n : Nat) (a v : EO)
  | nilchk (x : EO)
  | ibin (op : BinOp) (x y : EO)
  | sbin (op : BinOp) (x y : EO)
  | beq (neg : Bool) (x y : EO)
  | neq0 (neg : Bool) (kd : Nat) (x y : EO)
  | aeq (neg : Bool) (ks : List Nat) (x y : EO)
  | un (op : UnOp) (x : EO)
  | cvI (k : IntKind) (x : EO)
  | cvSS (x : EO)
  | cvSB (x : EO)
  | cvBS (x : EO)
  | cvRS (x : EO)
  | mkI (t : TypeId) (x : EO)
  | mkF (f : FuncId) (first cap : List EO)
  | mkSlice (es bytes : Nat) (zero : List V) (l c : EO)
  | slS (x : EO) (lo hi : Option EO)
  | slL (es : Nat) (x : EO) (lo hi mx : Option EO)
  | slA (es n : Nat) (x : EO) (lo hi mx : Option EO)
  | fa (off : Nat) (x : EO)
  | fld1 (off : Nat) (x : EO)
  | fldn (off n : Nat) (x : EO)
  | ia (es : Nat) (x i : EO)
  | iaA (es len : Nat) (x i : EO)
  | ixS (x i : EO)
  | ixA1 (es len : Nat) (x i : EO)
  | ixAn (es len : Nat) (x i : EO)
  | rngS (x : EO)
  | next (it : EO)
  | tas (t : TypeId) (zero : V) (ok : Bool) (x : EO)
  | ext (x : EO) (i : Nat)
  | call (f : FuncId) (args : List EO)
  | pcall (f : FuncId) (args : List EO)
  | callv (x : EO) (args : List EO)
  | app (es bytes : Nat) (s x : EO)
  | appZ (es bytes : Nat) (zero : List V) (s n : EO)
  | cvLL (x : EO)
  | len (x : EO)
  | lenS (x : EO)
  | cap (x : EO)
  | copy (es : Nat) (d s : EO)
  | mx (args : List EO)
  | mn (args : List EO)
  | clr (es : Nat) (zero : List V) (x : EO)
  | bad

/-- One operation: where its value goes; the guard: a temporary and what it must be; for regions whose order is open: between which loud operations it may come; the block that it may make. -/
structure EOper where
  dst : Option Nat
  guard : Option (Nat × Bool)
  op : EOp
  lo : Nat := 0
  hi : Nat := 0
  slot : Nat := 0

inductive EC where
  | skip
  | ops (l : List EOper)
  | draw (k : Nat) (l : List EOper)
  | seq (a b : EC)
  | cond (c : EO) (a b : EC)
  | block (id : Nat) (b : EC)
  | loop (b : EC)
  | exit (id : Nat)
  | ret

inductive ERes where
  | t (n : Nat)
  | c1 (a : Nat)
  | cn (a n : Nat)

structure EFunc where
  nt : Nat
  pure : Bool
  body : EC
  res : List ERes

inductive Ex where
  | nrm
  | ret
  | exit (id : Nat)

def fillA : List V → List (Nat × Nat × V) → Option (List V)
  | cells, [] => some cells
  | cells, (off, size, v) :: r =>
    if v.cells.length = size ∧ off + size ≤ cells.length then fillA (cells.take off ++ v.cells ++ cells.drop (off + size)) r else none

def intOp (op : BinOp) (k : IntKind) (x y : Int) : Option V :=
  match op with
  | .add => some (.int k (k.wrap (x + y)))
  | .sub => some (.int k (k.wrap (x - y)))
  | .mul => some (.int k (k.wrap (x * y)))
  | .quo => if y = 0 then none else some (.int k (k.wrap (x.tdiv y)))
  | .rem => if y = 0 then none else some (.int k (x.tmod y))
  | .and => some (.int k (k.wrap (BitVec.ofInt k.bits x &&& BitVec.ofInt k.bits y).toNat))
  | .or => some (.int k (k.wrap (BitVec.ofInt k.bits x ||| BitVec.ofInt k.bits y).toNat))
  | .xor => some (.int k (k.wrap (BitVec.ofInt k.bits x ^^^ BitVec.ofInt k.bits y).toNat))
  | .andNot => some (.int k (k.wrap (BitVec.ofInt k.bits x &&& ~~~(BitVec.ofInt k.bits y)).toNat))
  | .eql => some (.bool (decide (x = y)))
  | .neq => some (.bool (!decide (x = y)))
  | .lss => some (.bool (decide (x < y)))
  | .leq => some (.bool (decide (x ≤ y)))
  | .gtr => some (.bool (decide (y < x)))
  | .geq => some (.bool (decide (y ≤ x)))
  | _ => none

def shiftOp (op : BinOp) (k : IntKind) (x y : Int) : Option V :=
  if y < 0 then none else
    match op with
    | .shl => some (.int k (k.wrap (x * 2 ^ (min y.toNat k.bits))))
    | .shr => some (.int k (x.fdiv (2 ^ (min y.toNat k.bits))))
    | _ => none

def strLess : List Nat → List Nat → Bool
  | _, [] => false
  | [], _ :: _ => true
  | a :: x, b :: y => decide (a < b) || (a == b && strLess x y)

def strOp (op : BinOp) (x y : List Nat) : Option V :=
  match op with
  | .add => if x.length + y.length ≤ 2 ^ 62 then some (.str (x ++ y)) else none
  | .eql => some (.bool (x == y))
  | .neq => some (.bool (!(x == y)))
  | .lss => some (.bool (strLess x y))
  | .leq => some (.bool (strLess x y || x == y))
  | .gtr => some (.bool (!(strLess x y || x == y)))
  | .geq => some (.bool (!(strLess x y)))
  | _ => none

def leafEq : Nat → V → V → Option Bool
  | 0, .bool a, .bool b => some (a == b)
  | 1, .int k a, .int l b => if k = l then some (decide (a = b)) else none
  | 2, .str a, .str b => some (a == b)
  | _, _, _ => none

/-- Cell by cell; which kind each cell is of: 0 a bool, 1 a whole number, 2 a string. -/
def cellsEq : List Nat → List V → List V → Option Bool
  | [], [], [] => some true
  | k :: ks, a :: as, b :: bs =>
    match leafEq k a b with
    | some true => cellsEq ks as bs
    | some false => some false
    | none => none
  | _, _, _ => none

def neg? (neg b : Bool) : V := .bool (if neg then !b else b)

def bound (x : Option V) (dflt : Nat) (most : Nat) : Option Nat :=
  match x with
  | none => if dflt ≤ most then some dflt else none
  | some (.int _ n) => if 0 ≤ n ∧ n ≤ (most : Int) then some n.toNat else none
  | some _ => none

/-- Bytes as the model has them. -/
def toBytes (s : List Nat) : ByteArray := ⟨(s.map UInt8.ofNat).toArray⟩
def ofBytes (s : ByteArray) : List Nat := s.data.toList.map UInt8.toNat

def bytesOf : List V → Option (List Nat)
  | [] => some []
  | .int .u8 n :: r => if 0 ≤ n ∧ n < 256 then (bytesOf r).map (n.toNat :: ·) else none
  | _ :: _ => none
def runesOf : List V → Option (List Nat)
  | [] => some []
  | .int .i32 n :: r => (runesOf r).map (ofBytes (Utf8.encode n) ++ ·)
  | _ :: _ => none

def maxA : V → List V → Option V
  | v, [] => some v
  | .int k x, .int _ y :: r => maxA (.int k (if y > x then y else x)) r
  | _, _ => none
def minA : V → List V → Option V
  | v, [] => some v
  | .int k x, .int _ y :: r => minA (.int k (if y < x then y else x)) r
  | _, _ => none

def rep (n : Nat) (l : List V) : List V :=
  match n with
  | 0 => []
  | n + 1 => l ++ rep n l

/-- The cells of n elements that a slice has. -/
def slCells (H : Heap) (es : Nat) : V → Option (List V)
  | .nils => some []
  | .sl i o n es' _ =>
    match H.get i with
    | .cells _ cs => if es' = es ∧ o + n * es ≤ cs.length then some ((cs.drop o).take (n * es)) else none
    | _ => none
  | _ => none

/-- What is appended: cells, and how many elements. -/
def srcCells (H : Heap) (es : Nat) : V → Option (List V × Nat)
  | .str s => if es = 1 then some (s.map (fun (b : Nat) => V.int .u8 b), s.length) else none
  | .nils => some ([], 0)
  | .sl i o n es' f => (slCells H es (.sl i o n es' f)).map (·, n)
  | _ => none

/-- A quiet operation: its value, and the block that it makes under number 'nid'. -/
def qop (op : EOp) (fr : Fr) (H : Heap) (nid : Nat) : Option (V × Option Obj) :=
  match op with
  | .mv x => some (ev fr x, none)
  | .pick c a b => match ev fr c with
    | .bool t => some (if t then ev fr a else ev fr b, none)
    | _ => none
  | .new zero => some (.ptr nid 0, some (.cells false zero))
  | .box x => some (.ptr nid 0, some (.cells false (ev fr x).cells))
  | .build zero parts => match fillA zero (parts.map fun p => (p.1, p.2.1, ev fr p.2.2)) with
    | some cs => some (.agg cs, none)
    | none => none
  | .bslice es n zero parts => match fillA zero (parts.map fun p => (p.1, p.2.1, ev fr p.2.2)) with
    | some cs => some (.sl nid 0 n es true, some (.cells false cs))
    | none => none
  | .ld1 a => match ev fr a with
    | .ptr i o => match H.get i with
      | .cells _ cs => match cs[o]? with
        | some v => some (v, none)
        | none => none
      | _ => none
    | _ => none
  | .ldn n a => match ev fr a with
    | .ptr i o => match H.get i with
      | .cells _ cs => if o + n ≤ cs.length then some (.agg ((cs.drop o).take n), none) else none
      | _ => none
    | _ => none
  | .nilchk x => match ev fr x with
    | .ptr i o => some (.ptr i o, none)
    | .fn f a b => some (.fn f a b, none)
    | _ => none
  | .ibin op x y => match op, ev fr x, ev fr y with
    | .shl, .int k a, .int _ b => (shiftOp .shl k a b).map (·, none)
    | .shr, .int k a, .int _ b => (shiftOp .shr k a b).map (·, none)
    | op, .int k a, .int l b => if k = l then (intOp op k a b).map (·, none) else none
    | _, _, _ => none
  | .sbin op x y => match ev fr x, ev fr y with
    | .str a, .str b => (strOp op a b).map (·, none)
    | _, _ => none
  | .beq neg x y => match ev fr x, ev fr y with
    | .bool a, .bool b => some (neg? neg (a == b), none)
    | _, _ => none
  | .neq0 neg kd x y => match kd, ev fr x, ev fr y with
    | 0, .nilp, .nilp => some (neg? neg true, none)
    | 0, .nilp, .ptr _ _ => some (neg? neg false, none)
    | 0, .ptr _ _, .nilp => some (neg? neg false, none)
    | 1, .nils, .nils => some (neg? neg true, none)
    | 1, .nils, .sl _ _ _ _ _ => some (neg? neg false, none)
    | 1, .sl _ _ _ _ _, .nils => some (neg? neg false, none)
    | 2, .nilFn, .nilFn => some (neg? neg true, none)
    | 2, .nilFn, .fn _ _ _ => some (neg? neg false, none)
    | 2, .fn _ _ _, .nilFn => some (neg? neg false, none)
    | _, _, _ => none
  | .aeq neg ks x y => match ev fr x, ev fr y with
    | .agg a, .agg b => if a.length = ks.length ∧ b.length = ks.length then (cellsEq ks a b).map (neg? neg ·, none) else none
    | _, _ => none
  | .un op x => match op, ev fr x with
    | .not, .bool b => some (.bool (!b), none)
    | .neg, .int k n => some (.int k (k.wrap (0 - n)), none)
    | .xor, .int k n => (intOp .xor k (if k.signed then -1 else k.max) n).map (·, none)
    | _, _ => none
  | .cvI k x => match ev fr x with
    | .int _ n => some (.int k (k.wrap n), none)
    | _ => none
  | .cvSS x => match ev fr x with
    | .str s => some (.str s, none)
    | _ => none
  | .cvSB x => match ev fr x with
    | .str s => some (.sl nid 0 s.length 1 false, some (.cells false (s.map fun (b : Nat) => V.int .u8 b)))
    | _ => none
  | .cvBS x => match slCells H 1 (ev fr x) with
    | some cs => (bytesOf cs).map (.str ·, none)
    | none => none
  | .cvRS x => match slCells H 1 (ev fr x) with
    | some cs => (runesOf cs).map (.str ·, none)
    | none => none
  | .mkI t x => some (.iface t (ev fr x), none)
  | .mkF f a b => some (.fn f (a.map (ev fr)) (b.map (ev fr)), none)
  | .mkSlice es bytes zero l c => match ev fr l, ev fr c with
    | .int .i64 l, .int .i64 c =>
      if 0 ≤ l ∧ l ≤ c ∧ (bytes : Int) * c ≤ 2 ^ 48 ∧ zero.length = es ∧ 0 < es ∧ c < 2 ^ 62 then some (.sl nid 0 l.toNat es (l == c), some (.cells false (rep c.toNat zero))) else none
    | _, _ => none
  | .slS x lo hi => match ev fr x with
    | .str s => match bound (hi.map (ev fr)) s.length s.length with
      | some h => match bound (lo.map (ev fr)) 0 h with
        | some l => some (.str ((s.take h).drop l), none)
        | none => none
      | none => none
    | _ => none
  | .slL es x lo hi mx => match ev fr x with
    | .nils => match bound (mx.map (ev fr)) 0 0, bound (hi.map (ev fr)) 0 0, bound (lo.map (ev fr)) 0 0 with
      | some _, some _, some _ => some (.nils, none)
      | _, _, _ => none
    | .sl i o n es' full =>
      if es' = es then
        match bound (mx.map (ev fr)) n n with
        | some m => match bound (hi.map (ev fr)) n m with
          | some h => match bound (lo.map (ev fr)) 0 h with
            | some l => some (.sl i (o + l * es) (h - l) es (match mx with | some _ => m == h | none => full && h == n), none)
            | none => none
          | none => none
        | none => none
      else none
    | _ => none
  | .slA es n x lo hi mx => match ev fr x with
    | .ptr i o => match H.get i with
      | .cells _ cs =>
        if o + n * es ≤ cs.length then
          match bound (mx.map (ev fr)) n n with
          | some m => match bound (hi.map (ev fr)) n m with
            | some h => match bound (lo.map (ev fr)) 0 h with
              | some l => some (.sl i (o + l * es) (h - l) es (m == h), none)
              | none => none
            | none => none
          | none => none
        else none
      | _ => none
    | _ => none
  | .fa off x => match ev fr x with
    | .ptr i o => some (.ptr i (o + off), none)
    | _ => none
  | .fld1 off x => match ev fr x with
    | .agg cs => match cs[off]? with
      | some v => some (v, none)
      | none => none
    | _ => none
  | .fldn off n x => match ev fr x with
    | .agg cs => if off + n ≤ cs.length then some (.agg ((cs.drop off).take n), none) else none
    | _ => none
  | .ia es x i => match ev fr x, ev fr i with
    | .sl b o n es' _, .int _ k => if es' = es ∧ 0 ≤ k ∧ k < (n : Int) then some (.ptr b (o + k.toNat * es), none) else none
    | _, _ => none
  | .iaA es len x i => match ev fr x, ev fr i with
    | .ptr b o, .int _ k => if 0 ≤ k ∧ k < (len : Int) then some (.ptr b (o + k.toNat * es), none) else none
    | _, _ => none
  | .ixS x i => match ev fr x, ev fr i with
    | .str s, .int _ k => if 0 ≤ k then match s[k.toNat]? with
      | some b => some (.int .u8 (b : Int), none)
      | none => none
      else none
    | _, _ => none
  | .ixA1 es len x i => match ev fr x, ev fr i with
    | .agg cs, .int _ k => if 0 ≤ k ∧ k < (len : Int) then match cs[k.toNat * es]? with
      | some v => some (v, none)
      | none => none
      else none
    | _, _ => none
  | .ixAn es len x i => match ev fr x, ev fr i with
    | .agg cs, .int _ k => if 0 ≤ k ∧ k < (len : Int) ∧ k.toNat * es + es ≤ cs.length then some (.agg ((cs.drop (k.toNat * es)).take es), none) else none
    | _, _ => none
  | .rngS x => match ev fr x with
    | .str s => some (.ptr nid 0, some (.sit s 0))
    | _ => none
  | .tas t zero ok x => match ev fr x with
    | .iface t' v => if t' = t then some (if ok then .tup [v, .bool true] else v, none) else if ok then some (.tup [zero, .bool false], none) else none
    | .nilI => if ok then some (.tup [zero, .bool false], none) else none
    | _ => none
  | .ext x i => match ev fr x with
    | .tup vs => match vs[i]? with
      | some v => some (v, none)
      | none => none
    | _ => none
  | .lenS x => match ev fr x with
    | .str s => some (.int .i64 (s.length : Int), none)
    | _ => none
  | .len x => match ev fr x with
    | .nils => some (.int .i64 0, none)
    | .sl _ _ n _ _ => some (.int .i64 (n : Int), none)
    | _ => none
  | .cap x => match ev fr x with
    | .nils => some (.int .i64 0, none)
    | .sl _ _ n _ true => some (.int .i64 (n : Int), none)
    | _ => none
  | .mx args => match args.map (ev fr) with
    | v :: r => (maxA v r).map (·, none)
    | [] => none
  | .mn args => match args.map (ev fr) with
    | v :: r => (minA v r).map (·, none)
    | [] => none
  | _ => none

/-- The operands of an operation. -/
def EOp.eos : EOp → List EO
  | .mv x | .box x | .ld1 x | .ldn _ x | .nilchk x | .un _ x | .cvI _ x | .cvSS x | .cvSB x | .cvBS x | .cvRS x | .cvLL x | .mkI _ x | .fa _ x | .fld1 _ x | .fldn _ _ x
  | .rngS x | .next x | .tas _ _ _ x | .ext x _ | .len x | .lenS x | .cap x | .clr _ _ x => [x]
  | .pick c a b => [c, a, b]
  | .new _ | .bad => []
  | .build _ ps | .bslice _ _ _ ps => ps.map fun p => p.2.2
  | .st _ a v => [a, v]
  | .ibin _ x y | .sbin _ x y | .beq _ x y | .neq0 _ _ x y | .aeq _ _ x y | .mkSlice _ _ _ x y | .ia _ x y | .iaA _ _ x y | .ixS x y | .ixA1 _ _ x y | .ixAn _ _ x y | .app _ _ x y | .appZ _ _ _ x y | .copy _ x y => [x, y]
  | .mkF _ a b => a ++ b
  | .slS x lo hi => x :: (lo.toList ++ hi.toList)
  | .slL _ x lo hi m3 | .slA _ _ x lo hi m3 => x :: (lo.toList ++ hi.toList ++ m3.toList)
  | .call _ as | .pcall _ as | .mx as | .mn as => as
  | .callv x as => x :: as

/-- Does it change memory that is there already, or go into code? -/
def EOp.loud : EOp → Bool
  | .st .. | .call .. | .callv .. | .app .. | .appZ .. | .cvLL .. | .next .. | .copy .. | .clr .. => true
  | _ => false

def store (H : Heap) (a : V) (n : Nat) (c : List V) : Option Heap :=
  match a with
  | .ptr i o => match H.get i with
    | .cells false cs => if c.length = n ∧ o + n ≤ cs.length ∧ c.all V.isCell = true then some (H.set i (.cells false (cs.take o ++ c ++ cs.drop (o + n)))) else none
    | _ => none
  | _ => none

/-- 'append(s, xs...)', xs: m elements, their cells; 'm = 0' is not for here. -/
def appC (es bytes m : Nat) (s : V) (xs : List V) (H : Heap) : Option (V × Heap) :=
  match s with
  | .nils => if m * bytes ≤ 2 ^ 44 ∧ 1 ≤ bytes ∧ bytes ≤ 2 ^ 20 ∧ xs.all V.isCell = true then some (.sl H.next 0 m es false, H.alloc (.cells false xs)) else none
  | .sl i o n es' f =>
    match H.get i with
    | .cells ro cs =>
      if es' = es ∧ o + n * es ≤ cs.length ∧ (n + m) * bytes ≤ 2 ^ 44 ∧ 1 ≤ bytes ∧ bytes ≤ 2 ^ 20 ∧ xs.all V.isCell = true then
        if f then some (.sl H.next 0 (n + m) es false, H.alloc (.cells false ((cs.drop o).take (n * es) ++ xs)))
        else if ro then none
        else some (.sl H.next 0 (n + m) es false, (H.set i .dead).alloc (.cells false ((cs.drop o).take (n * es) ++ xs)))
      else none
    | _ => none
  | _ => none

def isSl : V → Bool
  | .nils | .sl .. => true
  | _ => false

def appA (es bytes : Nat) (s x : V) (H : Heap) : Option (V × Heap) :=
  match srcCells H es x with
  | none => none
  | some (xs, m) => if m = 0 then (if isSl s then some (s, H) else none) else appC es bytes m s xs H

def appZA (es bytes : Nat) (zero : List V) (s n : V) (H : Heap) : Option (V × Heap) :=
  match n with
  | .int .i64 k =>
    if 0 ≤ k ∧ k ≤ 2 ^ 44 ∧ zero.length = es ∧ 0 < es then
      if k = 0 then (if isSl s then some (s, H) else none) else appC es bytes k.toNat s (rep k.toNat zero) H
    else none
  | _ => none

def cvLLA (x : V) (H : Heap) : Option (V × Heap) :=
  match x with
  | .sl i o n es f => match H.get i with
    | .cells false _ => if 0 < n then some (.sl i o n es f, H) else none
    | _ => none
  | _ => none

def copyA (es : Nat) (d s : V) (H : Heap) : Option (V × Heap) :=
  match srcCells H es s, d with
  | some (_, _), .nils => some (.int .i64 0, H)
  | some (xs, m), .sl i o n es' _ =>
    if es' = es then
      if m = 0 ∨ n = 0 then some (.int .i64 0, H)
      else (store H (.ptr i o) (min m n * es) (xs.take (min m n * es))).map ((.int .i64 ((min m n : Nat) : Int)), ·)
    else none
  | _, _ => none

def nextA (it : V) (H : Heap) : Option (V × Heap) :=
  match it with
  | .ptr r 0 => match H.get r with
    | .sit s pos =>
      if pos < s.length then
        let d := Utf8.decode (toBytes s) pos
        some (.tup [.bool true, .int .i64 (pos : Int), .int .i32 (d.1 : Int)], H.set r (.sit s (pos + d.2)))
      else some (.tup [.bool false], H)
    | _ => none
  | _ => none

def clrA (es : Nat) (zero : List V) (x : V) (H : Heap) : Option (V × Heap) :=
  match x with
  | .nils => some (.tup [], H)
  | .sl i o n es' _ => if es' = es then if n = 0 then some (.tup [], H) else (store H (.ptr i o) (n * es) (rep n zero)).map ((.tup []), ·) else none
  | _ => none

/-- A loud operation; 'callF': how a function is called. -/
def lop (callF : FuncId → List V → Heap → Option (V × Heap)) (op : EOp) (fr : Fr) (H : Heap) : Option (V × Heap) :=
  match op with
  | .st n a v => (store H (ev fr a) n (ev fr v).cells).map ((.tup []), ·)
  | .call f args => callF f (args.map (ev fr)) H
  | .callv x args => match ev fr x with
    | .fn f first cap => callF f (first ++ args.map (ev fr) ++ cap) H
    | _ => none
  | .app es bytes s x => appA es bytes (ev fr s) (ev fr x) H
  | .appZ es bytes zero s n => appZA es bytes zero (ev fr s) (ev fr n) H
  | .cvLL x => cvLLA (ev fr x) H
  | .next it => nextA (ev fr it) H
  | .copy es d s => copyA es (ev fr d) (ev fr s) H
  | .clr es zero x => clrA es zero (ev fr x) H
  | _ => none

/-- A quiet operation, or a call in a heap of its own. -/
def qop' (pureF : FuncId → List V → Option V) (op : EOp) (fr : Fr) (H : Heap) (nid : Nat) : Option (V × Option Obj) :=
  match op with
  | .pcall f args => (pureF f (args.map (ev fr))).map (·, none)
  | op => qop op fr H nid

def wantedA (o : EOper) (fr : Fr) : Bool :=
  match o.guard with
  | none => true
  | some (t, b) => match fr.get t with
    | some (.bool c) => c == b
    | _ => false

def putA (fr : Fr) (d : Option Nat) (v : V) : Fr :=
  match d with
  | some d => fr.set v d
  | none => fr

def runOps (callF : FuncId → List V → Heap → Option (V × Heap)) (pureF : FuncId → List V → Option V) : List EOper → Fr → Heap → Option (Fr × Heap)
  | [], fr, H => some (fr, H)
  | o :: r, fr, H =>
    if wantedA o fr then
      if o.op.loud then
        match lop callF o.op fr H with
        | some (v, H') => runOps callF pureF r (putA fr o.dst v) H'
        | none => none
      else
        match qop' pureF o.op fr H H.next with
        | some (v, none) => runOps callF pureF r (putA fr o.dst v) H
        | some (v, some b) => runOps callF pureF r (putA fr o.dst v) (H.alloc b)
        | none => none
    else runOps callF pureF r (putA fr o.dst V.undef) H

/-! ### A region whose order is open -/

structure Rec where
  op : EOp
  fr : Fr
  v : V
  b : Option Obj
  hi : Nat
  nid : Nat

def Obj.beq : Obj → Obj → Bool
  | .cells a c, .cells b d => a == b && V.beqs c d
  | .sit s p, .sit t q => s == t && p == q
  | _, _ => false

def sameB : Option Obj → Option Obj → Bool
  | none, none => true
  | some a, some b => Obj.beq a b
  | _, _ => false

def okAt (pureF : FuncId → List V → Option V) (op : EOp) (fr : Fr) (nid : Nat) (v : V) (b : Option Obj) (H : Heap) : Bool :=
  match qop' pureF op fr H nid with
  | some (v', b') => V.beq v v' && sameB b b'
  | none => false

/-- The blocks made so far that a loud operation of number m waits for. -/
def commit (m : Nat) : List (Nat × Nat × Obj) → Heap → Heap
  | [], H => H
  | (hi, id, b) :: r, H => if hi = m then (commit m r H).set id b else commit m r H
def addPend (hi id : Nat) (b : Option Obj) (pend : List (Nat × Nat × Obj)) : List (Nat × Nat × Obj) :=
  match b with
  | some b => (hi, id, b) :: pend
  | none => pend

/-- 'Hs': the heaps behind each loud operation so far, the last one first (H is behind the m-th). -/
def runDraw (callF : FuncId → List V → Heap → Option (V × Heap)) (pureF : FuncId → List V → Option V) (base : Nat) :
    List EOper → Fr → Heap → List Heap → Nat → List (Nat × Nat × Obj) → List Rec → Option (Fr × Heap)
  | [], fr, H, _, m, pend, _ => some (fr, commit m pend H)
  | o :: r, fr, H, Hs, m, pend, watch =>
    if o.op.loud then
      match (if wantedA o fr then lop callF o.op fr (commit m pend H) else some (V.undef, commit m pend H)) with
      | some (v, H') =>
        if watch.all (fun c => decide (c.hi ≤ m) || okAt pureF c.op c.fr c.nid c.v c.b H') then
          runDraw callF pureF base r (putA fr o.dst v) H' (H :: Hs) (m + 1) pend watch
        else none
      | none => none
    else if wantedA o fr then
      match qop' pureF o.op fr H (base + o.slot) with
      | some (v, b) =>
        if (Hs.take (m - o.lo)).all (okAt pureF o.op fr (base + o.slot) v b) then
          runDraw callF pureF base r (putA fr o.dst v) H Hs m
            (addPend o.hi (base + o.slot) b pend)
            (if m < o.hi then { op := o.op, fr := fr, v := v, b := b, hi := o.hi, nid := base + o.slot } :: watch else watch)
        else none
      | none => none
    else runDraw callF pureF base r (putA fr o.dst V.undef) H Hs m pend watch

/-! ### Code -/

def resOf (fr : Fr) (H : Heap) : ERes → Option V
  | .t n => some ((fr.get n).getD V.undef)
  | .c1 a => match (fr.get a).getD V.undef with
    | .ptr i o => match H.get i with
      | .cells _ cs => cs[o]?
      | _ => none
    | _ => none
  | .cn a n => match (fr.get a).getD V.undef with
    | .ptr i o => match H.get i with
      | .cells _ cs => if o + n ≤ cs.length then some (.agg ((cs.drop o).take n)) else none
      | _ => none
    | _ => none
def resList (fr : Fr) (H : Heap) : List ERes → Option (List V)
  | [] => some []
  | r :: rs => match resOf fr H r, resList fr H rs with
    | some v, some vs => some (v :: vs)
    | _, _ => none
def tupOf : List V → V
  | [v] => v
  | vs => .tup vs

def mkFr : List V → Nat → Fr → Fr
  | [], _, fr => fr
  | v :: vs, i, fr => mkFr vs (i + 1) (fr.set v i)

/-- What is known of a program: compiled functions; functions of plain data that are known by a Lean function; the package variables. -/
structure Env where
  fn : FuncId → Option EFunc
  known : FuncId → Option (List V → Option V)
  glob : Heap

abbrev Run := EC → Fr → Heap → Option (Ex × Fr × Heap)

def callA (E : Env) (rec : Run) (f : FuncId) (args : List V) (H : Heap) : Option (V × Heap) :=
  match E.fn f with
  | none => none
  | some ef =>
    match rec ef.body (mkFr args 0 .nil) H with
    | some (.nrm, fr', H') => (resList fr' H' ef.res).map fun vs => (tupOf vs, H')
    | some (.ret, fr', H') => (resList fr' H' ef.res).map fun vs => (tupOf vs, H')
    | _ => none

def pureA (E : Env) (rec : Run) (f : FuncId) (args : List V) : Option V :=
  match E.known f with
  | some g => g args
  | none =>
    if V.grounds args then
      match callA E rec f args E.glob with
      | some (v, _) => if v.ground then some v else none
      | none => none
    else none

def step (E : Env) (rec : Run) : Run := fun c fr H =>
  match c with
  | .skip => some (.nrm, fr, H)
  | .ops l => (runOps (callA E rec) (pureA E rec) l fr H).map fun r => (.nrm, r.1, r.2)
  | .draw k l => (runDraw (callA E rec) (pureA E rec) H.next l fr (H.skip k) [] 0 [] []).map fun r => (.nrm, r.1, r.2)
  | .seq a b => match rec a fr H with
    | some (.nrm, fr', H') => rec b fr' H'
    | r => r
  | .cond c a b => match ev fr c with
    | .bool true => rec a fr H
    | .bool false => rec b fr H
    | _ => none
  | .block id b => match rec b fr H with
    | some (.exit j, fr', H') => if j = id then some (.nrm, fr', H') else some (.exit j, fr', H')
    | r => r
  | .loop b => match rec b fr H with
    | some (.nrm, fr', H') => rec (.loop b) fr' H'
    | r => r
  | .exit id => some (.exit id, fr, H)
  | .ret => some (.ret, fr, H)

def exec (E : Env) : Nat → Run
  | 0 => fun _ _ _ => none
  | n + 1 => step E (exec E n)

def call (E : Env) (n : Nat) (f : FuncId) (args : List V) (H : Heap) : Option (V × Heap) := callA E (exec E n) f args H
def pcall (E : Env) (n : Nat) (f : FuncId) (args : List V) : Option V := pureA E (exec E n) f args

end Go.Ev
