/- Each loud operation of the evaluator but a call, in one theorem; how a call begins. -/
import Derived.Test.YtdalcnjdpfnjjaaGreatDoorEvN
set_option linter.unusedSimpArgs false
set_option linter.unusedVariables false
namespace Go.Ev
open Go

section
variable {P : Program} {w : World} {A : Around} {φ : Fi} {H H' : Heap} {nt : Nat} {fr : Fr} {a : Act} {pf : FuncId → Bool} {v : V} {e : EOp}

theorem lop_sound {o : Oper} {cf : FuncId → List V → Heap → Option (V × Heap)} (hv : Inv A φ H w.heap) (hg : GlobAt φ P.globals.size) (hf : FR φ nt fr a.tmps) (hc : compOp P pf o.op = some e) (hl : e.loud = true)
    (hcall : ∀ f args, e ≠ .call f args) (hcallv : ∀ x args, e ≠ .callv x args) (hq : lop cf e fr H = some (v, H')) : LGood A w φ H v H' ((execOp a.eval o).run P w) := by
  cases ho : o.op with
  | store t x y => rw [ho] at hc; simp only [execOp, ho]; exact l_store hv hc hg hf hq
  | next it s =>
    rw [ho] at hc
    cases s with
    | true =>
      obtain ⟨x', h1, rfl⟩ := map_some hc
      simp only [execOp, ho]
      simp only [lop] at hq
      exact l_next hv (opnd_sound hg hf h1) hq
    | false => simp [compOp] at hc
  | convert s d x =>
    rw [ho] at hc
    simp only [execOp, ho]
    simp only [compOp] at hc
    split at hc
    · injection hc with hc; subst hc; simp [EOp.loud] at hl
    · injection hc with hc; subst hc; simp [EOp.loud] at hl
    · split at hc
      · split at hc
        · injection hc with hc; subst hc; simp [EOp.loud] at hl
        · simp at hc
      · simp at hc
    · rename_i e1 el x' h1 h2 h3
      split at hc
      · rename_i hsd
        have hsd' : s = d := by simpa using hsd
        subst hsd'
        split at hc
        · rename_i h4
          injection hc with hc; subst hc
          simp only [lop] at hq
          exact l_cvLL hv h2 h4 (opnd_sound hg hf h3) hq
        · simp at hc
      · simp at hc
    · split at hc
      · injection hc with hc; subst hc; simp [EOp.loud] at hl
      · injection hc with hc; subst hc; simp [EOp.loud] at hl
      · simp at hc
    · simp at hc
  | call c =>
    rw [ho] at hc
    simp only [compOp] at hc
    unfold compCall at hc
    split at hc
    · rename_i f hcal
      split at hc
      · split at hc
        · injection hc with hc
          split at hc
          · subst hc; simp [EOp.loud] at hl
          · exact absurd hc.symm (hcall _ _)
        · simp at hc
      · simp at hc
    · split at hc
      · injection hc with hc; exact absurd hc.symm (hcallv _ _)
      · simp at hc
    · simp at hc
    · rename_i b hcal
      split at hc
      · split at hc
        · rename_i s0 x0 el k0 ha ht1 ht2
          split at hc
          · rename_i s1 x1 i z h1 h2 h3 h4
            injection hc with hc; subst hc
            obtain ⟨t, ht1a, ht1b⟩ := Option.bind_eq_some_iff.1 ht1
            obtain ⟨u, ht2a, ht2b⟩ := Option.bind_eq_some_iff.1 ht2
            rw [run_builtin ho hcal (s := Builtin.append_ c.argTypes o.type (c.args.map a.eval)) (fun _ => rfl), args2 ha]
            simp only [lop] at hq
            exact l_appZ hv (opnd_sound hg hf h1) (opnd_sound hg hf h2) ht1a ht1b ht2a ht2b h3 h4 hq
          · simp at hc
        · rename_i s0 x0 el xt hnint ha ht1 ht2
          split at hc
          · rename_i s1 x1 i z h1 h2 h3 h4
            injection hc with hc; subst hc
            obtain ⟨t, ht1a, ht1b⟩ := Option.bind_eq_some_iff.1 ht1
            obtain ⟨u, ht2a, ht2b⟩ := Option.bind_eq_some_iff.1 ht2
            rw [run_builtin ho hcal (s := Builtin.append_ c.argTypes o.type (c.args.map a.eval)) (fun _ => rfl), args2 ha]
            simp only [lop] at hq
            exact l_app hv (opnd_sound hg hf h1) (opnd_sound hg hf h2) ht1a ht1b ht2a ht2b (fun k hk => hnint k hk) h3 h4 hq
          · simp at hc
        · simp at hc
      · split at hc
        · split at hc
          · injection hc with hc; subst hc; simp [EOp.loud] at hl
          · simp at hc
        · obtain ⟨x', h1, rfl⟩ := map_some hc; simp [EOp.loud] at hl
        · obtain ⟨x', h1, rfl⟩ := map_some hc; simp [EOp.loud] at hl
        · simp at hc
      · split at hc
        · obtain ⟨x', h1, rfl⟩ := map_some hc; simp [EOp.loud] at hl
        · simp at hc
      · split at hc
        · rename_i d0 s0 el ha ht1
          split at hc
          · rename_i d1 s1 i h1 h2 h3
            split at hc
            · injection hc with hc; subst hc
              obtain ⟨t, ht1a, ht1b⟩ := Option.bind_eq_some_iff.1 ht1
              rw [run_builtin ho hcal (s := Builtin.copy_ c.argTypes o.type (c.args.map a.eval)) (fun _ => rfl), args2 ha]
              simp only [lop] at hq
              exact l_copy hv (opnd_sound hg hf h1) (opnd_sound hg hf h2) ht1a ht1b h3 hq
            · simp at hc
          · simp at hc
        · simp at hc
      · split at hc
        · rename_i x0 el ha ht1
          split at hc
          · rename_i x1 z h1 h2
            injection hc with hc; subst hc
            obtain ⟨t, ht1a, ht1b⟩ := Option.bind_eq_some_iff.1 ht1
            rw [run_builtin ho hcal (s := Builtin.clear_ c.argTypes o.type (c.args.map a.eval)) (fun _ => rfl), args1 ha]
            simp only [lop] at hq
            have hi : ∃ i, P.info? el = some i := by
              cases hi : P.info? el with
              | none => simp [zeroCs, hi] at h2
              | some i => exact ⟨i, rfl⟩
            obtain ⟨i, hi⟩ := hi
            have hsz : P.cellsOf el = i.size := by simp [Program.cellsOf, hi]
            rw [hsz] at hq
            exact l_clear hv (opnd_sound hg hf h1) ht1a ht1b hi h2 hq
          · simp at hc
        · simp at hc
      · obtain ⟨x', h1, rfl⟩ := map_some hc; simp [EOp.loud] at hl
      · obtain ⟨x', h1, rfl⟩ := map_some hc; simp [EOp.loud] at hl
      · simp at hc
  | move x => rw [ho] at hc; obtain ⟨x', h1, rfl⟩ := map_some hc; simp [EOp.loud] at hl
  | assign x => rw [ho] at hc; obtain ⟨x', h1, rfl⟩ := map_some hc; simp [EOp.loud] at hl
  | alloc x => rw [ho] at hc; obtain ⟨x', h1, rfl⟩ := map_some hc; simp [EOp.loud] at hl
  | nilCheck x => rw [ho] at hc; obtain ⟨x', h1, rfl⟩ := map_some hc; simp [EOp.loud] at hl
  | unOp op t x => rw [ho] at hc; obtain ⟨x', h1, rfl⟩ := map_some hc; simp [EOp.loud] at hl
  | extract x i => rw [ho] at hc; obtain ⟨x', h1, rfl⟩ := map_some hc; simp [EOp.loud] at hl
  | panic x => rw [ho] at hc; simp [compOp] at hc; subst hc; simp [EOp.loud] at hl
  | binOp op t x y yt =>
    rw [ho] at hc
    simp only [compOp] at hc
    split at hc
    · unfold binK at hc
      repeat' split at hc
      all_goals first | (simp at hc; done) | (injection hc with hc; subst hc; simp [EOp.loud] at hl)
    · simp at hc
  | build t ps =>
    rw [ho] at hc
    simp only [compOp] at hc
    repeat' split at hc
    all_goals first | (simp at hc; done) | (obtain ⟨x', h1, rfl⟩ := map_some hc; simp [EOp.loud] at hl)
  | buildSlice t n ps =>
    rw [ho] at hc
    simp only [compOp] at hc
    repeat' split at hc
    all_goals first | (simp at hc; done) | (obtain ⟨x', h1, rfl⟩ := map_some hc; simp [EOp.loud] at hl)
  | pick x y z | box x y | load x y | makeInterface x y | makeFunc x y z | makeSlice x y z | slice x y z u q | fieldAddr x y z | field x y z | indexAddr x y z | index x y z | range x y | typeAssert x y z u =>
    rw [ho] at hc
    simp only [compOp] at hc
    repeat' split at hc
    all_goals first | (simp at hc; done) | (injection hc with hc; subst hc; simp [EOp.loud] at hl)
  | _ => rw [ho] at hc; simp [compOp] at hc

/-! ### Calls -/

theorem run_callFunc {f : FuncId} {fn : Func} {c : Code} (h1 : P.funcs[f]? = some fn) (h2 : fn.body = some c) (h3 : fn.name ≠ "runtime.NumGoroutine") (args : Array Value) (w : World) :
    (callFunc f args).run P w = .ok (.enter f args) w := by
  simp [callFunc, h1, h2, h3]

theorem run_call {o : Oper} {c : Call} {f : FuncId} (ho : o.op = .call c) (hcal : c.callee = .value (.func f)) : (execOp a.eval o).run P w = (callFunc f (c.args.map a.eval)).run P w := by
  simp [execOp, ho, resolve, hcal, Deferred.ofValue, Act.eval, invoke]

theorem run_callv {o : Oper} {c : Call} {x : Operand} {f : FuncId} {first cap : Array Value} (ho : o.op = .call c) (hcal : c.callee = .value x) (hx : a.eval x = .func (.func f) first cap) :
    (execOp a.eval o).run P w = (callFunc f (first ++ c.args.map a.eval ++ cap)).run P w := by
  simp [execOp, ho, resolve, hcal, Deferred.ofValue, hx, invoke]

end
end Go.Ev
