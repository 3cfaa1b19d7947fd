/- What the printed functions are spelt with; the tree that they are found by; how they are tied. -/
import Derived.Test.YtdalcnjdpfnjjaaGreatDoorEvB
namespace Go.Proofs.YtdalcnjdpfnjjaaGreatDoor.Co
open Go Go.Ev
def t (n : Nat) : EO := .t n
def ii (n : Int) : EO := .c (.int .i64 n)
def p (d : Nat) (o : EOp) : EOper := { dst := some d, guard := none, op := o, lo := 0, hi := 0, slot := 0 }
def q (o : EOp) : EOper := { dst := none, guard := none, op := o, lo := 0, hi := 0, slot := 0 }
def w (d : Option Nat) (g : Option (Nat × Bool)) (o : EOp) (lo hi slot : Nat) : EOper := { dst := d, guard := g, op := o, lo := lo, hi := hi, slot := slot }
def o (l : List EOper) : EC := .ops l
def s (a b : EC) : EC := .seq a b
/-- Functions by number. -/
inductive BT where
  | lf (i : Nat) (e : EFunc)
  | nd (k : Nat) (l r : BT)
def BT.get : BT → Nat → Option EFunc
  | .lf i e, f => bif Nat.beq f i then some e else none
  | .nd k l r, f => bif Nat.blt f k then l.get f else r.get f
def Tied (P : Program) (pf : FuncId → Bool) (f : FuncId) (e : EFunc) : Prop := ∃ fn, P.funcs[f]? = some fn ∧ compF P pf f fn = some e
inductive BT.Ties (P : Program) (pf : FuncId → Bool) : BT → Prop where
  | lf {i : Nat} {e : EFunc} (h : Tied P pf i e) : BT.Ties P pf (.lf i e)
  | nd {k : Nat} {l r : BT} (h : BT.Ties P pf l) (h' : BT.Ties P pf r) : BT.Ties P pf (.nd k l r)
theorem BT.Ties.get {P : Program} {pf : FuncId → Bool} {t : BT} (h : t.Ties P pf) : ∀ (f : Nat) (e : EFunc), t.get f = some e → ∃ fn, P.funcs[f]? = some fn ∧ compF P pf f fn = some e := by
  induction h with
  | lf h =>
    intro f e he
    simp only [BT.get] at he
    cases hb : Nat.beq f _ with
    | false => rw [hb] at he; simp at he
    | true =>
      rw [hb] at he
      simp at he
      subst he
      rw [Nat.eq_of_beq_eq_true hb]
      exact h
  | nd _ _ ih ih' =>
    intro f e he
    simp only [BT.get] at he
    cases hb : Nat.blt f _ with
    | true => rw [hb] at he; exact ih f e he
    | false => rw [hb] at he; exact ih' f e he
end Go.Proofs.YtdalcnjdpfnjjaaGreatDoor.Co
