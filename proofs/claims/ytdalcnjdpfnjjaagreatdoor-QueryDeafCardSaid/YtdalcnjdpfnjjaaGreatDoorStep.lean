/- The evaluator's run, equation by equation: for stepping through code by hand. No program in sight. -/
import Derived.Test.YtdalcnjdpfnjjaaGreatDoorMono
import Derived.Test.YtdalcnjdpfnjjaaGreatDoorCoD
set_option linter.unusedSimpArgs false
set_option linter.unusedVariables false
namespace Go.Ev
open Go
section
variable (E : Env) (n : Nat) (fr : Fr) (H : Heap)
theorem ex_skip : exec E (n + 1) .skip fr H = some (.nrm, fr, H) := rfl
theorem ex_ops (l : List EOper) : exec E (n + 1) (.ops l) fr H = (runOps (callA E (exec E n)) (pureA E (exec E n)) l fr H).map fun r => (.nrm, r.1, r.2) := rfl
theorem ex_draw (k : Nat) (l : List EOper) : exec E (n + 1) (.draw k l) fr H = (runDraw (callA E (exec E n)) (pureA E (exec E n)) H.next l fr (H.skip k) [] 0 [] []).map fun r => (.nrm, r.1, r.2) := rfl
theorem ex_seq (a b : EC) : exec E (n + 1) (.seq a b) fr H = match exec E n a fr H with
    | some (.nrm, fr', H') => exec E n b fr' H'
    | r => r := rfl
theorem ex_cond (c : EO) (a b : EC) : exec E (n + 1) (.cond c a b) fr H = match ev fr c with
    | .bool true => exec E n a fr H
    | .bool false => exec E n b fr H
    | _ => none := rfl
theorem ex_block (id : Nat) (b : EC) : exec E (n + 1) (.block id b) fr H = match exec E n b fr H with
    | some (.exit j, fr', H') => if j = id then some (.nrm, fr', H') else some (.exit j, fr', H')
    | r => r := rfl
theorem ex_loop (b : EC) : exec E (n + 1) (.loop b) fr H = match exec E n b fr H with
    | some (.nrm, fr', H') => exec E n (.loop b) fr' H'
    | r => r := rfl
theorem ex_exit (id : Nat) : exec E (n + 1) (.exit id) fr H = some (.exit id, fr, H) := rfl
theorem ex_ret : exec E (n + 1) .ret fr H = some (.ret, fr, H) := rfl
end
section
variable {cf : FuncId → List V → Heap → Option (V × Heap)} {pu : FuncId → List V → Option V} (fr : Fr) (H : Heap) (d : Option Nat) (op : EOp) (lo hi sl : Nat) (r : List EOper)
/-- An operation that no guard keeps back. -/
theorem ro_cons : runOps cf pu ({ dst := d, guard := none, op := op, lo := lo, hi := hi, slot := sl } :: r) fr H =
    if op.loud then (match lop cf op fr H with | some (v, H') => runOps cf pu r (putA fr d v) H' | none => none)
    else (match qop' pu op fr H H.next with | some (v, none) => runOps cf pu r (putA fr d v) H | some (v, some b) => runOps cf pu r (putA fr d v) (H.alloc b) | none => none) := rfl
theorem ro_guard (t : Nat) (b : Bool) : runOps cf pu ({ dst := d, guard := some (t, b), op := op, lo := lo, hi := hi, slot := sl } :: r) fr H =
    if (match fr.get t with | some (.bool c) => c == b | _ => false) then
      (if op.loud then (match lop cf op fr H with | some (v, H') => runOps cf pu r (putA fr d v) H' | none => none)
      else (match qop' pu op fr H H.next with | some (v, none) => runOps cf pu r (putA fr d v) H | some (v, some b) => runOps cf pu r (putA fr d v) (H.alloc b) | none => none))
    else runOps cf pu r (putA fr d V.undef) H := rfl
theorem ro_q {fr : Fr} {H : Heap} {d : Option Nat} {op : EOp} {lo hi sl : Nat} {r : List EOper} {v : V} (h : qop' pu op fr H H.next = some (v, none)) (hl : op.loud = false) :
    runOps cf pu ({ dst := d, guard := none, op := op, lo := lo, hi := hi, slot := sl } :: r) fr H = runOps cf pu r (putA fr d v) H := by
  rw [ro_cons, hl, h]; rfl
theorem ro_a {fr : Fr} {H : Heap} {d : Option Nat} {op : EOp} {lo hi sl : Nat} {r : List EOper} {v : V} {b : Obj} (h : qop' pu op fr H H.next = some (v, some b)) (hl : op.loud = false) :
    runOps cf pu ({ dst := d, guard := none, op := op, lo := lo, hi := hi, slot := sl } :: r) fr H = runOps cf pu r (putA fr d v) (H.alloc b) := by
  rw [ro_cons, hl, h]; rfl
theorem ro_l {fr : Fr} {H H' : Heap} {d : Option Nat} {op : EOp} {lo hi sl : Nat} {r : List EOper} {v : V} (h : lop cf op fr H = some (v, H')) (hl : op.loud = true) :
    runOps cf pu ({ dst := d, guard := none, op := op, lo := lo, hi := hi, slot := sl } :: r) fr H = runOps cf pu r (putA fr d v) H' := by
  rw [ro_cons, hl, h]; rfl
theorem ro_gt {fr : Fr} {H : Heap} {d : Option Nat} {op : EOp} {lo hi sl : Nat} {r : List EOper} {t : Nat} {b : Bool} (h : fr.get t = some (.bool b)) :
    runOps cf pu ({ dst := d, guard := some (t, b), op := op, lo := lo, hi := hi, slot := sl } :: r) fr H = runOps cf pu ({ dst := d, guard := none, op := op, lo := lo, hi := hi, slot := sl } :: r) fr H := by
  rw [ro_guard, ro_cons, h]; simp
theorem ro_gf {fr : Fr} {H : Heap} {d : Option Nat} {op : EOp} {lo hi sl : Nat} {r : List EOper} {t : Nat} {b : Bool} (h : fr.get t = some (.bool !b)) :
    runOps cf pu ({ dst := d, guard := some (t, b), op := op, lo := lo, hi := hi, slot := sl } :: r) fr H = runOps cf pu r (putA fr d V.undef) H := by
  rw [ro_guard, h]; cases b <;> simp
theorem ex_of_ops {E : Env} {n : Nat} {l : List EOper} {fr fr' : Fr} {H H' : Heap} (h : runOps (callA E (exec E n)) (pureA E (exec E n)) l fr H = some (fr', H')) : exec E (n + 1) (.ops l) fr H = some (.nrm, fr', H') := by
  rw [ex_ops, h]; rfl
theorem ro_nil : runOps cf pu [] fr H = some (fr, H) := rfl
theorem putA_some (d : Nat) (v : V) : putA fr (some d) v = fr.set v d := rfl
theorem putA_none (v : V) : putA fr none v = fr := rfl
theorem ev_t (n : Nat) : ev fr (.t n) = (fr.get n).getD V.undef := rfl
theorem ev_c (v : V) : ev fr (.c v) = v := rfl
end
section
variable {E : Env} {n : Nat} {a b : EC} {fr fr1 : Fr} {H H1 : Heap}
theorem sq_nrm (h : exec E n a fr H = some (.nrm, fr1, H1)) : exec E (n + 1) (.seq a b) fr H = exec E n b fr1 H1 := by rw [ex_seq, h]
theorem sq_ret (h : exec E n a fr H = some (.ret, fr1, H1)) : exec E (n + 1) (.seq a b) fr H = some (.ret, fr1, H1) := by rw [ex_seq, h]
theorem sq_exit {i : Nat} (h : exec E n a fr H = some (.exit i, fr1, H1)) : exec E (n + 1) (.seq a b) fr H = some (.exit i, fr1, H1) := by rw [ex_seq, h]
theorem bl_exit {i : Nat} (h : exec E n a fr H = some (.exit i, fr1, H1)) : exec E (n + 1) (.block i a) fr H = some (.nrm, fr1, H1) := by rw [ex_block, h]; simp
theorem bl_nrm {i : Nat} (h : exec E n a fr H = some (.nrm, fr1, H1)) : exec E (n + 1) (.block i a) fr H = some (.nrm, fr1, H1) := by rw [ex_block, h]
theorem bl_ret {i : Nat} (h : exec E n a fr H = some (.ret, fr1, H1)) : exec E (n + 1) (.block i a) fr H = some (.ret, fr1, H1) := by rw [ex_block, h]
theorem lp_nrm (h : exec E n a fr H = some (.nrm, fr1, H1)) : exec E (n + 1) (.loop a) fr H = exec E n (.loop a) fr1 H1 := by rw [ex_loop, h]
theorem lp_ret (h : exec E n a fr H = some (.ret, fr1, H1)) : exec E (n + 1) (.loop a) fr H = some (.ret, fr1, H1) := by rw [ex_loop, h]
theorem lp_exit {i : Nat} (h : exec E n a fr H = some (.exit i, fr1, H1)) : exec E (n + 1) (.loop a) fr H = some (.exit i, fr1, H1) := by rw [ex_loop, h]
theorem call_of_ret {f : FuncId} {ef : EFunc} {args : List V} {vs : List V} (hf : E.fn f = some ef) (h : exec E n ef.body (mkFr args 0 .nil) H = some (.ret, fr1, H1)) (hr : resList fr1 H1 ef.res = some vs) : call E n f args H = some (tupOf vs, H1) := by
  unfold call callA
  rw [hf]
  simp only [h, hr, Option.map_some]
theorem call_of_nrm {f : FuncId} {ef : EFunc} {args : List V} {vs : List V} (hf : E.fn f = some ef) (h : exec E n ef.body (mkFr args 0 .nil) H = some (.nrm, fr1, H1)) (hr : resList fr1 H1 ef.res = some vs) : call E n f args H = some (tupOf vs, H1) := by
  unfold call callA
  rw [hf]
  simp only [h, hr, Option.map_some]
end
end Go.Ev
