/- The evaluator over values with symbols in them: expressions, decisions, facts, and what they stand for. No program in sight. -/
import Derived.Test.YtdalcnjdpfnjjaaGreatDoorEvV
namespace Go.Ev
open Go

/-! ### Expressions -/

/-- Whole numbers: a literal; a symbol; an operation of a kind; a number taken into a kind; the length of a part of a symbol string; a byte of it; a sum, not taken into any kind. -/
inductive SI where
  | lit (n : Int)
  | var (i : Nat)
  | op (o : BinOp) (k : IntKind) (a b : SI)
  | cv (k : IntKind) (a : SI)
  | vlen (i lo : Nat) (hi : Option Nat)
  | vat (i k : Nat)
  | sum (a b : SI)

/-- A piece of a string: a byte; a part of a symbol string. -/
inductive Pc where
  | ch (a : SI)
  | sub (i lo : Nat) (hi : Option Nat)

abbrev SS := List Pc

/-- What is asked: is one equal to, is one less than, is a string equal to, a symbol, a test of a string. -/
inductive SA where
  | eqI (a b : SI)
  | ltI (a b : SI)
  | eqS (a b : SS)
  | bv (i : Nat)
  | pr (p : Nat) (s : SS)

inductive SV where
  | bool (b : Bool)
  | int (k : IntKind) (n : SI)
  | str (s : SS)
  | nilp
  | ptr (i o : Nat)
  | nils
  | sl (i o : Nat) (n : SI) (es : Nat) (full : Bool)
  | fn (f : FuncId) (first cap : List SV)
  | nilFn
  | iface (t : TypeId) (v : SV)
  | nilI
  | nilm
  | map (i : Nat)
  | agg (cs : List SV)
  | tup (vs : List SV)

inductive SObj where
  | cells (ro : Bool) (cs : List SV)
  | sit (s : SS) (pos : Nat)
  | dead

/-! The tree, spelt so that the kernel runs it fast -/
namespace T
variable {α : Type}
noncomputable def getF (t : T α) (n : Nat) : Option α :=
  T.rec (motive := fun _ => Nat → Option α) (fun _ => none) (fun o _ _ gl gr n => Bool.rec (motive := fun _ => Option α) (Bool.rec (motive := fun _ => Option α) (gr (Nat.sub (Nat.div n 2) 1)) (gl (Nat.div n 2)) (Nat.beq (Nat.mod n 2) 1)) o (Nat.beq n 0)) t n
noncomputable def mkF (v : α) (f : Nat) : Nat → T α :=
  Nat.rec (motive := fun _ => Nat → T α) (fun _ => .node (some v) .nil .nil) (fun _ m n => Bool.rec (motive := fun _ => T α) (Bool.rec (motive := fun _ => T α) (.node none .nil (m (Nat.sub (Nat.div n 2) 1))) (.node none (m (Nat.div n 2)) .nil) (Nat.beq (Nat.mod n 2) 1)) (.node (some v) .nil .nil) (Nat.beq n 0)) f
noncomputable def setF (v : α) (t : T α) : Nat → T α :=
  T.rec (motive := fun _ => Nat → T α) (fun n => mkF v n n) (fun o l r sl sr n => Bool.rec (motive := fun _ => T α) (Bool.rec (motive := fun _ => T α) (.node o l (sr (Nat.sub (Nat.div n 2) 1))) (.node o (sl (Nat.div n 2)) r) (Nat.beq (Nat.mod n 2) 1)) (.node (some v) l r) (Nat.beq n 0)) t
theorem bif_beq {β : Type} (n m : Nat) (a b : β) : Bool.rec (motive := fun _ => β) b a (Nat.beq n m) = if n = m then a else b := by
  by_cases h : n = m
  · subst h; simp
  · have : Nat.beq n m = false := by
      cases hb : Nat.beq n m with
      | false => rfl
      | true => exact absurd (Nat.eq_of_beq_eq_true hb) h
    simp [this, h]
theorem getF_eq : ∀ (t : T α) (n : Nat), t.getF n = t.get n
  | .nil, _ => rfl
  | .node o l r, n => by
    have : (T.node o l r).getF n = Bool.rec (motive := fun _ => Option α) (Bool.rec (motive := fun _ => Option α) (r.getF (n / 2 - 1)) (l.getF (n / 2)) (Nat.beq (n % 2) 1)) o (Nat.beq n 0) := rfl
    rw [this, bif_beq, bif_beq, getF_eq l, getF_eq r, get]
theorem mkF_eq (v : α) : ∀ (f n : Nat), mkF v f n = mk v f n
  | 0, _ => rfl
  | f + 1, n => by
    have : mkF v (f + 1) n = Bool.rec (motive := fun _ => T α) (Bool.rec (motive := fun _ => T α) (.node none .nil (mkF v f (n / 2 - 1))) (.node none (mkF v f (n / 2)) .nil) (Nat.beq (n % 2) 1)) (.node (some v) .nil .nil) (Nat.beq n 0) := rfl
    rw [this, bif_beq, bif_beq, mkF_eq v f, mkF_eq v f, mk]
theorem setF_eq (v : α) : ∀ (t : T α) (n : Nat), t.setF v n = t.set v n
  | .nil, n => by
    have : (T.nil : T α).setF v n = mkF v n n := rfl
    rw [this, mkF_eq, set]
  | .node o l r, n => by
    have : (T.node o l r).setF v n = Bool.rec (motive := fun _ => T α) (Bool.rec (motive := fun _ => T α) (.node o l (r.setF v (n / 2 - 1))) (.node o (l.setF v (n / 2)) r) (Nat.beq (n % 2) 1)) (.node (some v) l r) (Nat.beq n 0) := rfl
    rw [this, bif_beq, bif_beq, setF_eq v l, setF_eq v r, set]
end T

structure SHeap where
  next : Nat
  t : T SObj

namespace SHeap
noncomputable def get (H : SHeap) (i : Nat) : SObj := (H.t.getF i).getD .dead
noncomputable def set (H : SHeap) (i : Nat) (o : SObj) : SHeap := { next := H.next, t := H.t.setF o i }
noncomputable def alloc (H : SHeap) (o : SObj) : SHeap := { next := H.next + 1, t := H.t.setF o H.next }
def skip (H : SHeap) (k : Nat) : SHeap := { next := H.next + k, t := H.t }
end SHeap
abbrev SFr := T SV

/-! ### Alike -/

def optB : Option Nat → Option Nat → Bool
  | none, none => true
  | some a, some b => Nat.beq a b
  | _, _ => false
theorem optB_eq : ∀ {a b : Option Nat}, optB a b = true → a = b
  | none, none, _ => rfl
  | some a, some b, h => by rw [Nat.eq_of_beq_eq_true h]
  | none, some _, h => by simp [optB] at h
  | some _, none, h => by simp [optB] at h

def SI.beq : SI → SI → Bool
  | .lit a, .lit b => decide (a = b)
  | .var i, .var j => Nat.beq i j
  | .op o k a b, .op o' k' a' b' => decide (o = o') && decide (k = k') && a.beq a' && b.beq b'
  | .cv k a, .cv k' a' => decide (k = k') && a.beq a'
  | .vlen i l h, .vlen i' l' h' => Nat.beq i i' && Nat.beq l l' && optB h h'
  | .vat i k, .vat i' k' => Nat.beq i i' && Nat.beq k k'
  | .sum a b, .sum a' b' => a.beq a' && b.beq b'
  | _, _ => false
theorem SI.beq_eq : ∀ {a b : SI}, a.beq b = true → a = b
  | .lit a, b, h => by cases b <;> simp [SI.beq] at h; rw [h]
  | .var i, b, h => by cases b <;> simp [SI.beq] at h; rw [h]
  | .op o k a b, c, h => by
    cases c <;> simp [SI.beq] at h
    obtain ⟨⟨⟨h1, h2⟩, h3⟩, h4⟩ := h
    rw [h1, h2, SI.beq_eq h3, SI.beq_eq h4]
  | .cv k a, c, h => by cases c <;> simp [SI.beq] at h; rw [h.1, SI.beq_eq h.2]
  | .vlen i l hh, c, h => by cases c <;> simp [SI.beq] at h; rw [h.1.1, h.1.2, optB_eq h.2]
  | .vat i k, c, h => by cases c <;> simp [SI.beq] at h; rw [h.1, h.2]
  | .sum a b, c, h => by cases c <;> simp [SI.beq] at h; rw [SI.beq_eq h.1, SI.beq_eq h.2]

def Pc.beq : Pc → Pc → Bool
  | .ch a, .ch b => a.beq b
  | .sub i l h, .sub i' l' h' => Nat.beq i i' && Nat.beq l l' && optB h h'
  | _, _ => false
theorem Pc.beq_eq {a b : Pc} (h : a.beq b = true) : a = b := by
  cases a <;> cases b <;> simp [Pc.beq] at h
  · rw [SI.beq_eq h]
  · rw [h.1.1, h.1.2, optB_eq h.2]
def SS.beq : SS → SS → Bool
  | [], [] => true
  | a :: x, b :: y => a.beq b && SS.beq x y
  | _, _ => false
theorem SS.beq_eq : ∀ {a b : SS}, SS.beq a b = true → a = b
  | [], [], _ => rfl
  | a :: x, b :: y, h => by simp [SS.beq] at h; rw [Pc.beq_eq h.1, SS.beq_eq h.2]
  | [], _ :: _, h => by simp [SS.beq] at h
  | _ :: _, [], h => by simp [SS.beq] at h
def SA.beq : SA → SA → Bool
  | .eqI a b, .eqI a' b' => a.beq a' && b.beq b'
  | .ltI a b, .ltI a' b' => a.beq a' && b.beq b'
  | .eqS a b, .eqS a' b' => SS.beq a a' && SS.beq b b'
  | .bv i, .bv j => Nat.beq i j
  | .pr p s, .pr q t => Nat.beq p q && SS.beq s t
  | _, _ => false
theorem SA.beq_eq {a b : SA} (h : a.beq b = true) : a = b := by
  cases a <;> cases b <;> simp [SA.beq] at h
  · rw [SI.beq_eq h.1, SI.beq_eq h.2]
  · rw [SI.beq_eq h.1, SI.beq_eq h.2]
  · rw [SS.beq_eq h.1, SS.beq_eq h.2]
  · rw [h]
  · rw [h.1, SS.beq_eq h.2]

mutual
def SV.beq : SV → SV → Bool
  | .bool a, .bool b => a == b
  | .int k a, .int l b => decide (k = l) && a.beq b
  | .str a, .str b => SS.beq a b
  | .nilp, .nilp => true
  | .ptr i o, .ptr j p => Nat.beq i j && Nat.beq o p
  | .nils, .nils => true
  | .sl i o n es f, .sl j p m es' f' => Nat.beq i j && Nat.beq o p && n.beq m && Nat.beq es es' && f == f'
  | .fn f a b, .fn g c d => Nat.beq f g && SV.beqs a c && SV.beqs b d
  | .nilFn, .nilFn => true
  | .iface t v, .iface u w => Nat.beq t u && SV.beq v w
  | .nilI, .nilI => true
  | .nilm, .nilm => true
  | .map i, .map j => Nat.beq i j
  | .agg a, .agg b => SV.beqs a b
  | .tup a, .tup b => SV.beqs a b
  | _, _ => false
def SV.beqs : List SV → List SV → Bool
  | [], [] => true
  | a :: as, b :: bs => SV.beq a b && SV.beqs as bs
  | _, _ => false
end
mutual
theorem SV.beq_eq : ∀ (a b : SV), SV.beq a b = true → a = b
  | .bool a, b, h => by cases b <;> simp [SV.beq] at h; rw [h]
  | .int k n, b, h => by cases b <;> simp [SV.beq] at h; rw [h.1, SI.beq_eq h.2]
  | .str s, b, h => by cases b <;> simp [SV.beq] at h; rw [SS.beq_eq h]
  | .nilp, b, h => by cases b <;> simp [SV.beq] at h; rfl
  | .ptr i o, b, h => by cases b <;> simp [SV.beq] at h; rw [h.1, h.2]
  | .nils, b, h => by cases b <;> simp [SV.beq] at h; rfl
  | .sl i o n es f, b, h => by cases b <;> simp [SV.beq] at h; obtain ⟨⟨⟨⟨h1, h2⟩, h3⟩, h4⟩, h5⟩ := h; rw [h1, h2, SI.beq_eq h3, h4, h5]
  | .fn f x y, b, h => by
    cases b <;> simp [SV.beq] at h
    obtain ⟨⟨h1, h2⟩, h3⟩ := h
    rw [h1, SV.beqs_eq _ _ h2, SV.beqs_eq _ _ h3]
  | .nilFn, b, h => by cases b <;> simp [SV.beq] at h; rfl
  | .iface t v, b, h => by cases b <;> simp [SV.beq] at h; rw [h.1, SV.beq_eq _ _ h.2]
  | .nilI, b, h => by cases b <;> simp [SV.beq] at h; rfl
  | .nilm, b, h => by cases b <;> simp [SV.beq] at h; rfl
  | .map i, b, h => by cases b <;> simp [SV.beq] at h; rw [h]
  | .agg x, b, h => by cases b <;> simp [SV.beq] at h; rw [SV.beqs_eq _ _ h]
  | .tup x, b, h => by cases b <;> simp [SV.beq] at h; rw [SV.beqs_eq _ _ h]
theorem SV.beqs_eq : ∀ (a b : List SV), SV.beqs a b = true → a = b
  | [], [], _ => rfl
  | x :: xs, y :: ys, h => by
    simp [SV.beqs] at h
    rw [SV.beq_eq _ _ h.1, SV.beqs_eq _ _ h.2]
  | [], _ :: _, h => by simp [SV.beqs] at h
  | _ :: _, [], h => by simp [SV.beqs] at h
end

/-! ### What they stand for -/

structure Val where
  i : Nat → Int
  s : Nat → List Nat
  b : Nat → Bool
  p : Nat → List Nat → Bool

/-- The arithmetic of kinds, as the evaluator has it. -/
def arith (o : BinOp) (k : IntKind) (x y : Int) : Int :=
  match o with
  | .add => k.wrap (x + y)
  | .sub => k.wrap (x - y)
  | .mul => k.wrap (x * y)
  | .quo => k.wrap (x.tdiv y)
  | .rem => x.tmod y
  | .and => k.wrap (BitVec.ofInt k.bits x &&& BitVec.ofInt k.bits y).toNat
  | .or => k.wrap (BitVec.ofInt k.bits x ||| BitVec.ofInt k.bits y).toNat
  | .xor => k.wrap (BitVec.ofInt k.bits x ^^^ BitVec.ofInt k.bits y).toNat
  | .andNot => k.wrap (BitVec.ofInt k.bits x &&& ~~~(BitVec.ofInt k.bits y)).toNat
  | .shl => k.wrap (x * 2 ^ (min y.toNat k.bits))
  | .shr => x.fdiv (2 ^ (min y.toNat k.bits))
  | _ => 0

def subL (l : List Nat) (lo : Nat) (hi : Option Nat) : List Nat :=
  match hi with
  | none => l.drop lo
  | some h => (l.take h).drop lo

section
variable (ρ : Val)
def denI : SI → Int
  | .lit n => n
  | .var i => ρ.i i
  | .op o k a b => arith o k (denI a) (denI b)
  | .cv k a => k.wrap (denI a)
  | .vlen i lo hi => ((subL (ρ.s i) lo hi).length : Int)
  | .vat i k => ((ρ.s i)[k]?.getD 0 : Nat)
  | .sum a b => denI a + denI b
def denP : Pc → List Nat
  | .ch a => [(denI ρ a).toNat]
  | .sub i lo hi => subL (ρ.s i) lo hi
def denS : SS → List Nat
  | [] => []
  | p :: r => denP ρ p ++ denS r
def denA : SA → Bool
  | .eqI a b => decide (denI ρ a = denI ρ b)
  | .ltI a b => decide (denI ρ a < denI ρ b)
  | .eqS a b => denS ρ a == denS ρ b
  | .bv i => ρ.b i
  | .pr p s => ρ.p p (denS ρ s)
mutual
def denV : SV → V
  | .bool b => .bool b
  | .int k n => .int k (denI ρ n)
  | .str s => .str (denS ρ s)
  | .nilp => .nilp
  | .ptr i o => .ptr i o
  | .nils => .nils
  | .sl i o n es f => .sl i o (denI ρ n).toNat es f
  | .fn f a b => .fn f (denVs a) (denVs b)
  | .nilFn => .nilFn
  | .iface t v => .iface t (denV v)
  | .nilI => .nilI
  | .nilm => .nilm
  | .map i => .map i
  | .agg cs => .agg (denVs cs)
  | .tup vs => .tup (denVs vs)
def denVs : List SV → List V
  | [] => []
  | v :: r => denV v :: denVs r
end
def denO : SObj → Obj
  | .cells ro cs => .cells ro (denVs ρ cs)
  | .sit s pos => .sit (denS ρ s) pos
  | .dead => .dead
end

def T.map {α β : Type} (f : α → β) : T α → T β
  | .nil => .nil
  | .node o l r => .node (o.map f) (T.map f l) (T.map f r)
theorem T.get_map {α β : Type} (f : α → β) : ∀ (t : T α) (n : Nat), (T.map f t).get n = (t.get n).map f
  | .nil, _ => rfl
  | .node o l r, n => by
    simp only [T.map, T.get]
    split
    · rfl
    · split
      · exact T.get_map f l _
      · exact T.get_map f r _
theorem T.mk_map {α β : Type} (f : α → β) (v : α) : ∀ (k n : Nat), T.map f (T.mk v k n) = T.mk (f v) k n
  | 0, n => rfl
  | k + 1, n => by
    simp only [T.mk]
    split
    · rfl
    · split
      · simp only [T.map, T.mk_map f v k, Option.map_none]
      · simp only [T.map, T.mk_map f v k, Option.map_none]
theorem T.set_map {α β : Type} (f : α → β) (v : α) : ∀ (t : T α) (n : Nat), T.map f (t.set v n) = (T.map f t).set (f v) n
  | .nil, n => by simp only [T.set, T.map]; exact T.mk_map f v n n
  | .node o l r, n => by
    simp only [T.set, T.map]
    split
    · rfl
    · split
      · simp only [T.map, T.set_map f v l]
      · simp only [T.map, T.set_map f v r]

section
variable (ρ : Val)
def denH (H : SHeap) : Heap := { next := H.next, t := T.map (denO ρ) H.t }
def denF (fr : SFr) : Fr := T.map (denV ρ) fr

theorem denH_get (H : SHeap) (i : Nat) : (denH ρ H).get i = denO ρ (H.get i) := by
  simp only [denH, Heap.get, SHeap.get, T.get_map, T.getF_eq]
  cases H.t.get i <;> rfl
theorem denH_set (H : SHeap) (i : Nat) (o : SObj) : denH ρ (H.set i o) = (denH ρ H).set i (denO ρ o) := by
  simp only [denH, Heap.set, SHeap.set, T.set_map, T.setF_eq]
theorem denH_alloc (H : SHeap) (o : SObj) : denH ρ (H.alloc o) = (denH ρ H).alloc (denO ρ o) := by
  simp only [denH, Heap.alloc, SHeap.alloc, T.set_map, T.setF_eq]
theorem denH_skip (H : SHeap) (k : Nat) : denH ρ (H.skip k) = (denH ρ H).skip k := rfl
theorem denH_next (H : SHeap) : (denH ρ H).next = H.next := rfl
theorem denF_get (fr : SFr) (t : Nat) : (denF ρ fr).get t = (fr.get t).map (denV ρ) := T.get_map _ _ _
theorem denF_set (fr : SFr) (v : SV) (t : Nat) : denF ρ (fr.set v t) = (denF ρ fr).set (denV ρ v) t := T.set_map _ _ _ _
theorem denVs_eq : ∀ (l : List SV), denVs ρ l = l.map (denV ρ)
  | [] => rfl
  | v :: r => by simp only [denVs, List.map_cons, denVs_eq r]
theorem denS_eq : ∀ (l : SS), denS ρ l = l.flatMap (denP ρ)
  | [] => rfl
  | v :: r => by simp only [denS, List.flatMap_cons, denS_eq r]
end

/-! ### Closed values -/

def ofStr (s : List Nat) : SS := s.map fun (n : Nat) => Pc.ch (.lit (n : Int))
mutual
def ofV : V → SV
  | .bool b => .bool b
  | .int k n => .int k (.lit n)
  | .str s => .str (ofStr s)
  | .nilp => .nilp
  | .ptr i o => .ptr i o
  | .nils => .nils
  | .sl i o n es f => .sl i o (.lit (n : Int)) es f
  | .fn f a b => .fn f (ofVs a) (ofVs b)
  | .nilFn => .nilFn
  | .iface t v => .iface t (ofV v)
  | .nilI => .nilI
  | .nilm => .nilm
  | .map i => .map i
  | .agg cs => .agg (ofVs cs)
  | .tup vs => .tup (ofVs vs)
def ofVs : List V → List SV
  | [] => []
  | v :: r => ofV v :: ofVs r
end
theorem den_ofStr (ρ : Val) (s : List Nat) : denS ρ (ofStr s) = s := by
  induction s with
  | nil => rfl
  | cons a s ih =>
    simp only [ofStr, List.map_cons, denS, denP, denI] at ih ⊢
    rw [ih]; simp
mutual
theorem den_ofV (ρ : Val) : ∀ (v : V), denV ρ (ofV v) = v
  | .bool b => rfl
  | .int k n => rfl
  | .str s => by simp only [ofV, denV, den_ofStr]
  | .nilp => rfl
  | .ptr i o => rfl
  | .nils => rfl
  | .sl i o n es f => by simp only [ofV, denV, denI]; simp
  | .fn f a b => by simp only [ofV, denV, den_ofVs ρ a, den_ofVs ρ b]
  | .nilFn => rfl
  | .iface t v => by simp only [ofV, denV, den_ofV ρ v]
  | .nilI => rfl
  | .nilm => rfl
  | .map i => rfl
  | .agg cs => by simp only [ofV, denV, den_ofVs ρ cs]
  | .tup vs => by simp only [ofV, denV, den_ofVs ρ vs]
theorem den_ofVs (ρ : Val) : ∀ (l : List V), denVs ρ (ofVs l) = l
  | [] => rfl
  | v :: r => by simp only [ofVs, denVs, den_ofV ρ v, den_ofVs ρ r]
end

/-! ### Facts, and runs that branch -/

abbrev Facts' := List (SA × Bool)

/-- What is known ahead: clauses, of each of which a word is so; numbers that are the same. -/
structure Thy where
  cl : List Facts'
  rw : List (SI × SI)
  rg : List (SI × Int × Int)
/-- All strings that are symbols are bytes, of a size that fits. -/
structure Val.Ok (ρ : Val) (Th : Thy) : Prop where
  len : ∀ i, (ρ.s i).length ≤ 2 ^ 50
  byte : ∀ i x, x ∈ ρ.s i → x < 256
  th : ∀ cl ∈ Th.cl, ∃ x ∈ cl, denA ρ x.1 = x.2
  rw : ∀ x ∈ Th.rw, denI ρ x.1 = denI ρ x.2
  rg : ∀ x ∈ Th.rg, x.2.1 ≤ denI ρ x.1 ∧ denI ρ x.1 ≤ x.2.2
def Sat (ρ : Val) (F : Facts') : Prop := ∀ x ∈ F, denA ρ x.1 = x.2

def look (F : Facts') (a : SA) : Option Bool :=
  match F with
  | [] => none
  | (x, b) :: r => if x.beq a then some b else look r a
theorem look_eq {ρ : Val} : ∀ {F : Facts'} {a : SA} {b : Bool}, look F a = some b → Sat ρ F → denA ρ a = b
  | [], _, _, h, _ => by simp [look] at h
  | (x, c) :: r, a, b, h, hs => by
    simp only [look] at h
    split at h
    · rename_i hx
      injection h with h; subst h
      rw [← SA.beq_eq hx]
      exact hs (x, c) (by simp)
    · exact look_eq h fun y hy => hs y (by simp [hy])

/-- What is plain without any facts. -/
def plainA : SA → Option Bool
  | .eqI (.lit a) (.lit b) => some (decide (a = b))
  | .eqI a b => if a.beq b then some true else none
  | .ltI (.lit a) (.lit b) => some (decide (a < b))
  | .ltI a b => if a.beq b then some false else none
  | .eqS a b => if SS.beq a b then some true else none
  | _ => none
theorem plainA_eq {ρ : Val} {a : SA} {b : Bool} (h : plainA a = some b) : denA ρ a = b := by
  unfold plainA at h
  split at h
  · injection h
  · rename_i hx
    split at h
    · rename_i he
      injection h with h; subst h
      rw [SI.beq_eq he]; simp [denA]
    · simp at h
  · injection h
  · split at h
    · rename_i he
      injection h with h; subst h
      rw [SI.beq_eq he]; simp [denA]
    · simp at h
  · split at h
    · rename_i he
      injection h with h; subst h
      rw [SS.beq_eq he]; simp [denA]
    · simp at h
  · simp at h

/-! Between which numbers one lies -/

def bmax : Option Int → Int → Option Int
  | none, a => some a
  | some b, a => some (if b < a then a else b)
def bmin : Option Int → Int → Option Int
  | none, a => some a
  | some b, a => some (if a < b then a else b)
def bdRg (e : SI) : List (SI × Int × Int) → Option Int × Option Int
  | [] => match e with
    | .vlen _ _ none => (some 0, some (2 ^ 50))
    | .vlen _ lo (some h) => (some 0, some ((h - lo : Nat) : Int))
    | _ => (none, none)
  | (x, l, h) :: r => if x.beq e then (some l, some h) else bdRg e r
def bdF (rg : List (SI × Int × Int)) (e : SI) : Facts' → Option Int × Option Int
  | [] => bdRg e rg
  | (.ltI (.lit a) x, b) :: r =>
    let p := bdF rg e r
    if x.beq e then (if b then (bmax p.1 (a + 1), p.2) else (p.1, bmin p.2 a)) else p
  | (.ltI x (.lit a), b) :: r =>
    let p := bdF rg e r
    if x.beq e then (if b then (p.1, bmin p.2 (a - 1)) else (bmax p.1 a, p.2)) else p
  | (.eqI x (.lit a), true) :: r =>
    let p := bdF rg e r
    if x.beq e then (bmax p.1 a, bmin p.2 a) else p
  | _ :: r => bdF rg e r
def InB (n : Int) (p : Option Int × Option Int) : Prop := (∀ l, p.1 = some l → l ≤ n) ∧ (∀ h, p.2 = some h → n ≤ h)
theorem InB.max {n : Int} {p : Option Int × Option Int} (h : InB n p) {a : Int} (ha : a ≤ n) : InB n (bmax p.1 a, p.2) := by
  refine ⟨fun l hl => ?_, h.2⟩
  obtain ⟨p1, p2⟩ := p
  cases p1 with
  | none => simp [bmax] at hl; omega
  | some b =>
    simp [bmax] at hl
    have := h.1 b rfl
    split at hl <;> omega
theorem InB.min {n : Int} {p : Option Int × Option Int} (h : InB n p) {a : Int} (ha : n ≤ a) : InB n (p.1, bmin p.2 a) := by
  refine ⟨h.1, fun l hl => ?_⟩
  obtain ⟨p1, p2⟩ := p
  cases p2 with
  | none => simp [bmin] at hl; omega
  | some b =>
    simp [bmin] at hl
    have := h.2 b rfl
    split at hl <;> omega
theorem bdRg_ok {ρ : Val} (e : SI) (hlen : ∀ i, (ρ.s i).length ≤ 2 ^ 50) : ∀ (rg : List (SI × Int × Int)), (∀ x ∈ rg, x.2.1 ≤ denI ρ x.1 ∧ denI ρ x.1 ≤ x.2.2) → InB (denI ρ e) (bdRg e rg)
  | [], _ => by
    unfold bdRg
    split
    · rename_i i lo
      have := hlen i
      refine ⟨fun l hl => ?_, fun l hl => ?_⟩
      · simp at hl; subst hl; simp only [denI]; omega
      · simp at hl; subst hl; simp only [denI, subL, List.length_drop]; omega
    · rename_i i lo h
      refine ⟨fun l hl => ?_, fun l hl => ?_⟩
      · simp at hl; subst hl; simp only [denI]; omega
      · simp at hl; subst hl; simp only [denI, subL, List.length_drop, List.length_take]; omega
    · exact ⟨fun l hl => by simp at hl, fun l hl => by simp at hl⟩
  | (x, l, h) :: r, hr => by
    unfold bdRg
    split
    · rename_i hx
      have := hr (x, l, h) (by simp)
      rw [SI.beq_eq hx] at this
      refine ⟨fun l' hl => ?_, fun h' hl => ?_⟩
      · simp at hl; subst hl; exact this.1
      · simp at hl; subst hl; exact this.2
    · exact bdRg_ok e hlen r fun y hy => hr y (by simp [hy])
theorem bdF_ok {ρ : Val} {rg : List (SI × Int × Int)} (e : SI) (hrg : InB (denI ρ e) (bdRg e rg)) : ∀ (F : Facts'), Sat ρ F → InB (denI ρ e) (bdF rg e F)
  | [], _ => hrg
  | f :: r, hs => by
    have ih := bdF_ok e hrg r fun y hy => hs y (by simp [hy])
    have h0 := hs f (by simp)
    unfold bdF
    split
    · exact hrg
    · rename_i a x b r' heq
      injection heq with e1 e2
      subst e1; subst e2
      split
      · rename_i hx
        have hx := SI.beq_eq hx
        subst hx
        cases b with
        | true =>
          rw [if_pos rfl]
          have : a < denI ρ x := of_decide_eq_true h0
          exact ih.max (by omega)
        | false =>
          rw [if_neg (by simp)]
          have : ¬ a < denI ρ x := of_decide_eq_false h0
          exact ih.min (by omega)
      · exact ih
    · rename_i x a b r' _ heq
      injection heq with e1 e2
      subst e1; subst e2
      split
      · rename_i hx
        have hx := SI.beq_eq hx
        subst hx
        cases b with
        | true =>
          rw [if_pos rfl]
          have : denI ρ x < a := of_decide_eq_true h0
          exact ih.min (by omega)
        | false =>
          rw [if_neg (by simp)]
          have : ¬ denI ρ x < a := of_decide_eq_false h0
          exact ih.max (by omega)
      · exact ih
    · rename_i x a r' heq
      injection heq with e1 e2
      subst e1; subst e2
      split
      · rename_i hx
        have hx := SI.beq_eq hx
        subst hx
        have : denI ρ x = a := of_decide_eq_true h0
        have h1 := ih.max (a := a) (by omega)
        exact h1.min (by omega)
      · exact ih
    · rename_i heq
      injection heq with e1 e2
      subst e2; exact ih

/-- What follows for a question from the bounds. -/
def boundsA (rg : List (SI × Int × Int)) (F : Facts') : SA → Option Bool
  | .ltI (.lit a) e => match bdF rg e F with
    | (some l, some h) => if a < l then some true else if h ≤ a then some false else none
    | (some l, none) => if a < l then some true else none
    | (none, some h) => if h ≤ a then some false else none
    | (none, none) => none
  | .ltI e (.lit a) => match bdF rg e F with
    | (some l, some h) => if a ≤ l then some false else if h < a then some true else none
    | (some l, none) => if a ≤ l then some false else none
    | (none, some h) => if h < a then some true else none
    | (none, none) => none
  | .eqI e (.lit a) => match bdF rg e F with
    | (some l, some h) => if a < l then some false else if h < a then some false else if l = a ∧ h = a then some true else none
    | (some l, none) => if a < l then some false else none
    | (none, some h) => if h < a then some false else none
    | (none, none) => none
  | _ => none
theorem boundsA_ok {ρ : Val} {rg : List (SI × Int × Int)} {F : Facts'} {a : SA} {b : Bool} (hrg : ∀ e, InB (denI ρ e) (bdRg e rg)) (hs : Sat ρ F) (h : boundsA rg F a = some b) : denA ρ a = b := by
  unfold boundsA at h
  split at h
  · rename_i a e
    have hb := bdF_ok e (hrg e) F hs
    split at h <;> rename_i heq <;> rw [heq] at hb
    · rename_i l hh
      have h1 := hb.1 l rfl
      have h2 := hb.2 hh rfl
      split at h
      · injection h with h; subst h; exact decide_eq_true (by simp only [denI]; omega)
      · split at h
        · injection h with h; subst h; exact decide_eq_false (by simp only [denI]; omega)
        · simp at h
    · rename_i l
      have h1 := hb.1 l rfl
      split at h
      · injection h with h; subst h; exact decide_eq_true (by simp only [denI]; omega)
      · simp at h
    · rename_i hh
      have h2 := hb.2 hh rfl
      split at h
      · injection h with h; subst h; exact decide_eq_false (by simp only [denI]; omega)
      · simp at h
    · simp at h
  · rename_i e a _
    have hb := bdF_ok e (hrg e) F hs
    split at h <;> rename_i heq <;> rw [heq] at hb
    · rename_i l hh
      have h1 := hb.1 l rfl
      have h2 := hb.2 hh rfl
      split at h
      · injection h with h; subst h; exact decide_eq_false (by simp only [denI]; omega)
      · split at h
        · injection h with h; subst h; exact decide_eq_true (by simp only [denI]; omega)
        · simp at h
    · rename_i l
      have h1 := hb.1 l rfl
      split at h
      · injection h with h; subst h; exact decide_eq_false (by simp only [denI]; omega)
      · simp at h
    · rename_i hh
      have h2 := hb.2 hh rfl
      split at h
      · injection h with h; subst h; exact decide_eq_true (by simp only [denI]; omega)
      · simp at h
    · simp at h
  · rename_i e a
    have hb := bdF_ok e (hrg e) F hs
    split at h <;> rename_i heq <;> rw [heq] at hb
    · rename_i l hh
      have h1 := hb.1 l rfl
      have h2 := hb.2 hh rfl
      split at h
      · injection h with h; subst h; exact decide_eq_false (by simp only [denI]; omega)
      · split at h
        · injection h with h; subst h; exact decide_eq_false (by simp only [denI]; omega)
        · split at h
          · injection h with h; subst h; exact decide_eq_true (by simp only [denI]; omega)
          · simp at h
    · rename_i l
      have h1 := hb.1 l rfl
      split at h
      · injection h with h; subst h; exact decide_eq_false (by simp only [denI]; omega)
      · simp at h
    · rename_i hh
      have h2 := hb.2 hh rfl
      split at h
      · injection h with h; subst h; exact decide_eq_false (by simp only [denI]; omega)
      · simp at h
    · simp at h
  · simp at h

def lookA (Th : Thy) (F : Facts') (a : SA) : Option Bool :=
  match plainA a with
  | some b => some b
  | none => match look F a with
    | some b => some b
    | none => match a with
      | .eqI x y => match look F (.eqI y x) with
        | some b => some b
        | none => match boundsA Th.rg F (.eqI x y) with
          | some b => some b
          | none => boundsA Th.rg F (.eqI y x)
      | .eqS x y => look F (.eqS y x)
      | .ltI x y => boundsA Th.rg F (.ltI x y)
      | _ => none
theorem lookA_eq {ρ : Val} {Th : Thy} (ok : ρ.Ok Th) {F : Facts'} {a : SA} {b : Bool} (h : lookA Th F a = some b) (hs : Sat ρ F) : denA ρ a = b := by
  have hrg : ∀ e, InB (denI ρ e) (bdRg e Th.rg) := fun e => bdRg_ok e ok.len Th.rg ok.rg
  have sym : ∀ x y, denA ρ (.eqI x y) = denA ρ (.eqI y x) := fun x y => decide_eq_decide.2 eq_comm
  unfold lookA at h
  split at h
  · rename_i b' hp; injection h with h; subst h; exact plainA_eq hp
  · split at h
    · rename_i b' hp; injection h with h; subst h; exact look_eq hp hs
    · split at h
      · split at h
        · rename_i hp; injection h with h; subst h; rw [sym]; exact look_eq hp hs
        · split at h
          · rename_i hp; injection h with h; subst h; exact boundsA_ok hrg hs hp
          · rw [sym]; exact boundsA_ok hrg hs h
      · have := look_eq h hs
        simp only [denA] at this ⊢
        rw [← this]
        exact Bool.beq_comm
      · exact boundsA_ok hrg hs h
      · simp at h

/-- Is there a clause of which no word can be so? -/
def broken (Th : Thy) (F : Facts') : List (SA × Bool) → Bool
  | [] => true
  | (a, b) :: r => match lookA Th F a with
    | some c => if b == c then false else broken Th F r
    | none => false
theorem broken_eq {ρ : Val} {Th : Thy} (ok : ρ.Ok Th) {F : Facts'} (hs : Sat ρ F) : ∀ {cl : Facts'}, broken Th F cl = true → ¬ ∃ x ∈ cl, denA ρ x.1 = x.2
  | [], _ => by simp
  | (a, b) :: r, h => by
    simp only [broken] at h
    split at h
    · rename_i c hc
      split at h
      · simp at h
      · rename_i hne
        rintro ⟨x, hx, hxe⟩
        rcases List.mem_cons.1 hx with rfl | hx
        · have := lookA_eq ok hc hs
          simp only at hxe
          rw [hxe] at this
          simp [this] at hne
        · exact broken_eq ok hs h ⟨x, hx, hxe⟩
    · simp at h
def clash (Th : Thy) (F : Facts') : Bool := Th.cl.any (broken Th F)
theorem clash_eq {ρ : Val} {Th : Thy} {F : Facts'} (ok : ρ.Ok Th) (h : clash Th F = true) : ¬ Sat ρ F := by
  intro hs
  obtain ⟨cl, h1, h2⟩ := List.any_eq_true.1 h
  exact broken_eq ok hs h2 (ok.th cl h1)

/-- A run: from facts to all that may come, each with its facts. -/
abbrev SM (α : Type) := Thy → Facts' → Option (List (Facts' × α))

namespace SM
variable {α β : Type}
def ret (a : α) : SM α := fun _ F => some [(F, a)]
def fail : SM α := fun _ _ => none
def ofOpt (o : Option α) : SM α := fun _ F => match o with
  | some a => some [(F, a)]
  | none => none
def bindL (g : α → SM β) (Th : Thy) : List (Facts' × α) → Option (List (Facts' × β))
  | [] => some []
  | x :: r => match g x.2 Th x.1 with
    | some l => match r with
      | [] => some l
      | _ => match bindL g Th r with
        | some l' => some (l ++ l')
        | none => none
    | none => none
def bindC (g : α → SM β) (Th : Thy) : Option (List (Facts' × α)) → Option (List (Facts' × β))
  | some [x] => g x.2 Th x.1
  | some l => bindL g Th l
  | none => none
noncomputable def bind (m : SM α) (g : α → SM β) : SM β := fun Th F =>
  Option.rec (motive := fun _ => Option (List (Facts' × β))) none (fun l => List.rec (motive := fun _ => Option (List (Facts' × β))) (some [])
    (fun x r _ => List.rec (motive := fun _ => Option (List (Facts' × β))) (Prod.rec (motive := fun _ => Option (List (Facts' × β))) (fun F' a => g a Th F') x) (fun y r' _ => bindL g Th (x :: y :: r')) r) l) (m Th F)
theorem bind_eq (m : SM α) (g : α → SM β) (Th : Thy) (F : Facts') : bind m g Th F = bindC g Th (m Th F) := by
  unfold bind
  cases h : m Th F with
  | none => rfl
  | some l =>
    cases l with
    | nil => rfl
    | cons x r => cases r <;> rfl
def ask0 (a : SA) : SM Bool := fun Th F => match lookA Th F a with
  | some b => some [(F, b)]
  | none =>
    if clash Th ((a, true) :: F) then some [((a, false) :: F, false)]
    else if clash Th ((a, false) :: F) then some [((a, true) :: F, true)]
    else some [((a, true) :: F, true), ((a, false) :: F, false)]
/-- It must be so. -/
def need0 (a : SA) (b : Bool) : SM Unit := fun Th F => match lookA Th F a with
  | some c => if b == c then some [(F, ())] else none
  | none => if clash Th ((a, !b) :: F) then some [((a, b) :: F, ())] else none
/-- A literal stands on the right. -/
def canon : SA → SA
  | .eqI (.lit n) b => .eqI b (.lit n)
  | a => a
def ask (a : SA) : SM Bool := ask0 (canon a)
def need (a : SA) (b : Bool) : SM Unit := need0 (canon a) b
def rwI : List (SI × SI) → SI → SI
  | [], a => a
  | (x, y) :: r, a => if x.beq a then y else rwI r a
/-- A number, as it is known otherwise. -/
def num (a : SI) : SM SI := fun Th F => match a with
  | .lit n => some [(F, .lit n)]
  | a => some [(F, rwI Th.rw a)]
def test (b : Bool) : SM Unit := fun _ F => if b then some [(F, ())] else none
end SM

/-- Some of what may come is what comes. -/
def Snd {α : Type} (ρ : Val) (Th : Thy) (m : SM α) (P : α → Prop) : Prop := ∀ F l, m Th F = some l → Sat ρ F → ∃ x ∈ l, Sat ρ x.1 ∧ P x.2

section
variable {α β : Type} {ρ : Val} {Th : Thy} {m : SM α} {P : α → Prop} {Q : β → Prop}
theorem Snd.ret {a : α} (h : P a) : Snd ρ Th (SM.ret a) P := by
  intro F l hl hs
  simp only [SM.ret] at hl
  injection hl with hl; subst hl
  exact ⟨(F, a), by simp, hs, h⟩
theorem Snd.fail : Snd ρ Th (SM.fail : SM α) P := by
  intro F l hl; simp [SM.fail] at hl
theorem Snd.mono (h : Snd ρ Th m P) {P' : α → Prop} (hp : ∀ a, P a → P' a) : Snd ρ Th m P' := by
  intro F l hl hs
  obtain ⟨x, h1, h2, h3⟩ := h F l hl hs
  exact ⟨x, h1, h2, hp _ h3⟩
theorem Snd.ofOpt {o : Option α} (h : ∀ a, o = some a → P a) : Snd ρ Th (SM.ofOpt o) P := by
  intro F l hl hs
  cases o with
  | none => simp [SM.ofOpt] at hl
  | some a =>
    simp only [SM.ofOpt] at hl
    injection hl with hl; subst hl
    exact ⟨(F, a), by simp, hs, h a rfl⟩
theorem bindL_mem (g : α → SM β) (Th : Thy) : ∀ (l : List (Facts' × α)) (l' : List (Facts' × β)), SM.bindL g Th l = some l' → ∀ x ∈ l, ∃ k, g x.2 Th x.1 = some k ∧ ∀ y ∈ k, y ∈ l'
  | [], l', _, x, hx => by simp at hx
  | z :: r, l', h, x, hx => by
    simp only [SM.bindL] at h
    split at h
    · rename_i k hk
      split at h
      · injection h with h; subst h
        rcases List.mem_cons.1 hx with rfl | hx
        · exact ⟨k, hk, fun y hy => hy⟩
        · simp at hx
      · split at h
        · rename_i k2 hk2
          injection h with h; subst h
          rcases List.mem_cons.1 hx with rfl | hx
          · exact ⟨k, hk, fun y hy => by simp [hy]⟩
          · obtain ⟨k', h1, h2⟩ := bindL_mem g Th _ k2 hk2 x hx
            exact ⟨k', h1, fun y hy => by simp [h2 y hy]⟩
        · simp at h
    · simp at h
theorem Snd.bind {g : α → SM β} (h : Snd ρ Th m P) (hg : ∀ a, P a → Snd ρ Th (g a) Q) : Snd ρ Th (SM.bind m g) Q := by
  intro F l hl hs
  rw [SM.bind_eq] at hl
  unfold SM.bindC at hl
  split at hl
  · rename_i x h1
    obtain ⟨x', hx, hs1, hp⟩ := h F _ h1 hs
    obtain rfl := List.mem_singleton.1 hx
    exact hg _ hp _ l hl hs1
  · rename_i l1 _ h1
    obtain ⟨x, hx, hs1, hp⟩ := h F l1 h1 hs
    obtain ⟨k, hk, hin⟩ := bindL_mem g Th l1 l hl x hx
    obtain ⟨y, hy, hs2, hq⟩ := hg x.2 hp x.1 k hk hs1
    exact ⟨y, hin y hy, hs2, hq⟩
  · simp at hl
theorem Snd.ask0 (ok : ρ.Ok Th) (a : SA) : Snd ρ Th (SM.ask0 a) (fun b => denA ρ a = b) := by
  intro F l hl hs
  simp only [SM.ask0] at hl
  have step : ∀ b, denA ρ a = b → Sat ρ ((a, b) :: F) := by
    intro b hb x hx
    rcases List.mem_cons.1 hx with rfl | hx
    · exact hb
    · exact hs x hx
  split at hl
  · rename_i b hb
    injection hl with hl; subst hl
    exact ⟨(F, b), by simp, hs, lookA_eq ok hb hs⟩
  · split at hl
    · rename_i hc
      injection hl with hl; subst hl
      have : denA ρ a = false := by
        cases hd : denA ρ a with
        | false => rfl
        | true => exact absurd (step true hd) (clash_eq ok hc)
      exact ⟨_, List.mem_singleton.2 rfl, step false this, this⟩
    · split at hl
      · rename_i hc
        injection hl with hl; subst hl
        have : denA ρ a = true := by
          cases hd : denA ρ a with
          | true => rfl
          | false => exact absurd (step false hd) (clash_eq ok hc)
        exact ⟨_, List.mem_singleton.2 rfl, step true this, this⟩
      · injection hl with hl; subst hl
        cases hd : denA ρ a with
        | true => exact ⟨((a, true) :: F, true), by simp, step true hd, rfl⟩
        | false => exact ⟨((a, false) :: F, false), by simp, step false hd, rfl⟩
theorem Snd.need0 (ok : ρ.Ok Th) (a : SA) (b : Bool) : Snd ρ Th (SM.need0 a b) (fun _ => denA ρ a = b) := by
  intro F l hl hs
  simp only [SM.need0] at hl
  split at hl
  · rename_i c hc
    split at hl
    · rename_i hb
      injection hl with hl; subst hl
      have hbc : b = c := by simpa using hb
      exact ⟨(F, ()), by simp, hs, by rw [hbc]; exact lookA_eq ok hc hs⟩
    · simp at hl
  · split at hl
    · rename_i hcl
      injection hl with hl; subst hl
      have : denA ρ a = b := by
        cases hd : decide (denA ρ a = b) with
        | true => exact of_decide_eq_true hd
        | false =>
          exfalso
          have hne : denA ρ a ≠ b := of_decide_eq_false hd
          refine clash_eq ok hcl (fun x hx => ?_)
          rcases List.mem_cons.1 hx with rfl | hx
          · simp only; cases h : denA ρ a <;> cases b <;> simp_all
          · exact hs x hx
      refine ⟨_, List.mem_singleton.2 rfl, fun x hx => ?_, this⟩
      rcases List.mem_cons.1 hx with rfl | hx
      · exact this
      · exact hs x hx
    · simp at hl
theorem canon_den (a : SA) : denA ρ (SM.canon a) = denA ρ a := by
  unfold SM.canon
  split
  · exact decide_eq_decide.2 eq_comm
  · rfl
theorem Snd.ask (ok : ρ.Ok Th) (a : SA) : Snd ρ Th (SM.ask a) (fun b => denA ρ a = b) :=
  (Snd.ask0 ok _).mono fun b hb => by rw [← canon_den]; exact hb
theorem Snd.need (ok : ρ.Ok Th) (a : SA) (b : Bool) : Snd ρ Th (SM.need a b) (fun _ => denA ρ a = b) :=
  (Snd.need0 ok _ b).mono fun _ hb => by rw [← canon_den]; exact hb
theorem rwI_eq : ∀ (r : List (SI × SI)) (a : SI), (∀ x ∈ r, denI ρ x.1 = denI ρ x.2) → denI ρ (SM.rwI r a) = denI ρ a
  | [], _, _ => rfl
  | (x, y) :: r, a, h => by
    simp only [SM.rwI]
    split
    · rename_i hx
      rw [← SI.beq_eq hx]
      exact (h (x, y) (by simp)).symm
    · exact rwI_eq r a fun z hz => h z (by simp [hz])
theorem Snd.num (ok : ρ.Ok Th) (a : SI) : Snd ρ Th (SM.num a) (fun x => denI ρ x = denI ρ a) := by
  intro F l hl hs
  simp only [SM.num] at hl
  split at hl
  · injection hl with hl; subst hl
    exact ⟨_, List.mem_singleton.2 rfl, hs, rfl⟩
  · injection hl with hl; subst hl
    exact ⟨_, List.mem_singleton.2 rfl, hs, rwI_eq _ _ ok.rw⟩
theorem Snd.test (b : Bool) : Snd ρ Th (SM.test b) (fun _ => b = true) := by
  intro F l hl hs
  simp only [SM.test] at hl
  split at hl
  · rename_i h
    injection hl with hl; subst hl
    exact ⟨(F, ()), by simp, hs, h⟩
  · simp at hl
end
end Go.Ev
