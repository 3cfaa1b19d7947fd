/- Code: what the evaluator's run gives is what the model's run comes to. Regions in the order of the text, branches, loops, calls. -/
import Derived.Test.YtdalcnjdpfnjjaaGreatDoorEvO
import Derived.LoopN
import Derived.Scope
set_option linter.unusedSimpArgs false
set_option linter.unusedVariables false
namespace Go.Ev
open Go

/-- The package variables lie in this memory as the evaluator has them. -/
def GlobIn (G : Heap) (hp : Array Go.Obj) : Prop := ∃ φ : Fi, Inv { F := fun _ => none, B := hp.size, old := fun b => hp[b]?, G := G } φ G hp

/-- A function of plain data: what it answers; all memory stays as it was. -/
def PureOk (P : Program) (G : Heap) (f : FuncId) (args : List V) (v : V) : Prop :=
  ∀ (φ : Fi) (args' : Array Value) (w : World), VRs φ args args'.toList → GlobIn G w.heap →
    (callFunc f args').run P w = .ok (.enter f args') w ∧
    Calls P f args' w (fun e w' => ∃ v', e = .returned v' ∧ (∀ ψ : Fi, VR ψ v v') ∧ Still w w' ∧ w.heap.size ≤ w'.heap.size ∧ ∀ b, b < w.heap.size → w'.heap[b]? = w.heap[b]?)

structure Tie (P : Program) (pf : FuncId → Bool) (E : Env) : Prop where
  fn : ∀ f ef, E.fn f = some ef → ∃ fn, P.funcs[f]? = some fn ∧ compF P pf f fn = some ef
  next : E.glob.next = P.globals.size
  dead : ∀ i, E.glob.next ≤ i → E.glob.get i = .dead
  ro : ∀ i, i < E.glob.next → ∃ cs, E.glob.get i = .cells true cs ∧ V.grounds cs = true
  known : ∀ f g, E.known f = some g → ∀ args v, g args = some v → PureOk P E.glob f args v
  mixed : P.follows .mixedOrders = true

def CallsGood (P : Program) (E : Env) (cf : FuncId → List V → Heap → Option (V × Heap)) : Prop :=
  ∀ f args H v H', cf f args H = some (v, H') → ∀ (A : Around) (φ : Fi) (w : World) (args' : Array Value), A.G = E.glob → Inv A φ H w.heap → VRs φ args args'.toList →
    (callFunc f args').run P w = .ok (.enter f args') w ∧
    Calls P f args' w (fun e w' => ∃ (φ' : Fi) (v' : Value), e = .returned v' ∧ Grow φ H φ' H' ∧ Inv A φ' H' w'.heap ∧ Still w w' ∧ VR φ' v v')
def PuresGood (P : Program) (E : Env) (pu : FuncId → List V → Option V) : Prop := ∀ f args v, pu f args = some v → PureOk P E.glob f args v

def ERel : Ex → Exit → Prop
  | .nrm, .normal => True
  | .ret, .ret => True
  | .exit i, .exit j => i = j
  | _, _ => False
def CodeGood (A : Around) (w : World) (φ : Fi) (H : Heap) (nt : Nat) (ex : Ex) (fr' : Fr) (H' : Heap) : Exit → Act → World → Prop := fun e a' w' =>
  ERel ex e ∧ ∃ φ' : Fi, Grow φ H φ' H' ∧ Inv A φ' H' w'.heap ∧ Still w w' ∧ FR φ' nt fr' a'.tmps ∧ a'.defers = []

section
variable {P : Program} {w : World} {A : Around} {φ : Fi} {H H' : Heap} {nt : Nat} {fr fr' : Fr} {a : Act} {pf : FuncId → Bool} {E : Env} {v : V} {ob : Option Obj}
  {cf : FuncId → List V → Heap → Option (V × Heap)} {pu : FuncId → List V → Option V} {next : Act → World → Prop} {Q : Exit → Act → World → Prop} {o : Oper} {e : EOp} {nid : Nat}

theorem Inv.globIn (t : Tie P pf E) (hA : A.G = E.glob) {hp : Array Go.Obj} (hv : Inv A φ H hp) : GlobIn E.glob hp := by
  refine ⟨fun i => if i < E.glob.next then φ i else none, ?_⟩
  have key : ∀ i x, (if i < E.glob.next then φ i else none) = some x → i < E.glob.next ∧ φ i = some x := by
    intro i x h
    by_cases hi : i < E.glob.next
    · rw [if_pos hi] at h; exact ⟨hi, h⟩
    · rw [if_neg hi] at h; simp at h
  have live : ∀ i, (E.glob.get i).live = true → i < E.glob.next := by
    intro i h
    rcases Nat.lt_or_ge i E.glob.next with h1 | h1
    · exact h1
    · rw [t.dead i h1] at h; simp [Obj.live] at h
  have norw : ∀ i, (E.glob.get i).rw = false := by
    intro i
    rcases Nat.lt_or_ge i E.glob.next with h1 | h1
    · obtain ⟨cs, h, _⟩ := t.ro i h1; rw [h]; rfl
    · rw [t.dead i h1]; rfl
  refine { leB := Nat.le_refl _, bnd := ?_, obj := ?_, sep := ?_, frn := ?_, sepF := fun _ _ _ _ _ _ => rfl, old := fun _ _ => rfl, rwB := ?_, glb := ?_ }
  · intro i b d sz h
    obtain ⟨h1, h2⟩ := key i _ h
    exact ⟨(hv.bnd i b d sz h2).1, h1⟩
  · intro i hl
    have hi := live i hl
    have hi' : i < A.G.next := by rw [hA]; exact hi
    obtain ⟨g1, g2, g3⟩ := hv.glb i hi'
    obtain ⟨b, d, sz, ob, h1, h2, h3⟩ := hv.obj i (by rw [g1, hA]; exact hl)
    refine ⟨b, d, sz, ob, by rw [if_pos hi]; exact h1, h2, ?_⟩
    rw [g1, hA] at h3
    obtain ⟨cs, hcs, hgr⟩ := t.ro i hi
    rw [hcs] at h3 ⊢
    obtain ⟨arr, ty, lo, hi2, k1, k2, k3, k4, k5⟩ := h3
    refine ⟨arr, ty, lo, hi2, k1, k2, k3, fun k x hk => ?_, k5⟩
    obtain ⟨x', m1, m2⟩ := k4 k x hk
    have : ∀ (l : List V), V.grounds l = true → ∀ (j : Nat) y, l[j]? = some y → y.ground = true := by
      intro l
      induction l with
      | nil => intro _ j y h; simp at h
      | cons z l ih =>
        intro h j y hy
        simp [V.grounds] at h
        cases j with
        | zero => simp at hy; subst hy; exact h.1
        | succ j => exact ih h.2 j y (by simpa using hy)
    exact ⟨x', m1, m2.ground (this cs hgr k x hk)⟩
  · intro i j b d sz d' sz' hr _ _ _; rw [norw] at hr; simp at hr
  · intro b x h; simp at h
  · intro i b d sz hr _; rw [norw] at hr; simp at hr
  · intro g hg
    refine ⟨rfl, norw g, ?_⟩
    have hg' : g < A.G.next := by rw [hA]; exact hg
    obtain ⟨_, _, sz, h3⟩ := hv.glb g hg'
    exact ⟨sz, by rw [if_pos hg]; exact h3⟩

theorem Inv.gAt (t : Tie P pf E) (hA : A.G = E.glob) {hp : Array Go.Obj} (hv : Inv A φ H hp) : GlobAt φ P.globals.size := by
  have := hv.globAt; rwa [hA, t.next] at this

/-- What is so behind a quiet operation. -/
def QPost (φ : Fi) (w : World) (nid : Nat) (v : V) (ob : Option Obj) (v' : Value) (w' : World) : Prop :=
  Still w w' ∧ match ob with
  | none => w.heap.size ≤ w'.heap.size ∧ (∀ b, b < w.heap.size → w'.heap[b]? = w.heap[b]?) ∧ VR φ v v'
  | some b => ∃ o' sz, w'.heap = w.heap.push o' ∧ VR (φ.put nid w.heap.size 0 sz) v v' ∧ Bears (φ.put nid w.heap.size 0 sz) b 0 sz o'

theorem pcall_of {f : FuncId} {args : List EO} (hc : compOp P pf o.op = some (.pcall f args)) : ∃ c, o.op = .call c ∧ c.callee = .value (.func f) ∧ opnds P.globals.size c.args.toList = some args ∧ ∃ fn, P.funcs[f]? = some fn := by
  cases ho : o.op with
  | call c =>
    rw [ho] at hc
    simp only [compOp] at hc
    unfold compCall at hc
    split at hc
    · rename_i f' hcal
      split at hc
      · rename_i fn args' h1 h2
        split at hc
        · injection hc with hc
          split at hc
          · injection hc with e1 e2
            subst e1; subst e2
            exact ⟨c, rfl, hcal, h2, fn, h1⟩
          · simp at hc
        · simp at hc
      · simp at hc
    · split at hc <;> simp at hc
    · simp at hc
    · repeat' split at hc
      all_goals first | (simp at hc; done) | (obtain ⟨x', h1, h2⟩ := map_some hc; simp at h2)
  | binOp op t x y yt =>
    rw [ho] at hc
    simp only [compOp] at hc
    split at hc
    · unfold binK at hc
      repeat' split at hc
      all_goals simp at hc
    · simp at hc
  | next it s => rw [ho] at hc; cases s <;> simp [compOp] at hc
  | move x => rw [ho] at hc; simp [compOp] at hc
  | assign x => rw [ho] at hc; simp [compOp] at hc
  | alloc x => rw [ho] at hc; simp [compOp] at hc
  | nilCheck x => rw [ho] at hc; simp [compOp] at hc
  | unOp op t x => rw [ho] at hc; simp [compOp] at hc
  | extract x i => rw [ho] at hc; simp [compOp] at hc
  | panic x => rw [ho] at hc; simp [compOp] at hc
  | pick x y z | box x y | load x y | store x y z | makeInterface x y | makeFunc x y z | makeSlice x y z | slice x y z u q | fieldAddr x y z | field x y z | indexAddr x y z | index x y z | range x y | typeAssert x y z u | convert x y z | build x y | buildSlice x y z =>
    rw [ho] at hc
    simp only [compOp] at hc
    repeat' split at hc
    all_goals first | (simp at hc; done) | (obtain ⟨x', h1, h2⟩ := map_some hc; simp at h2)
  | _ => rw [ho] at hc; simp [compOp] at hc

/-- One quiet operation. -/
theorem quiet_wp (t : Tie P pf E) (pg : PuresGood P E pu) (hA : A.G = E.glob) (hv : Inv A φ H w.heap) (hn : φ nid = none) (hf : FR φ nt fr a.tmps) (hc : compOp P pf o.op = some e) (hl : e.loud = false)
    (hq : qop' pu e fr H nid = some (v, ob)) (K : ∀ v' w', QPost φ w nid v ob v' w' → next (a.put o.dst v') w') : o.wp P a w next Q := by
  by_cases hp : ∃ f args, e = .pcall f args
  · obtain ⟨f, args, rfl⟩ := hp
    simp only [qop'] at hq
    obtain ⟨r, hr, h⟩ := map_some hq
    simp at h; obtain ⟨rfl, rfl⟩ := h
    obtain ⟨c, ho, hcal, hargs, _⟩ := pcall_of hc
    have hx := opnds_sound (hv.gAt t hA) hf hargs
    obtain ⟨h1, h2⟩ := pg f _ _ hr φ (c.args.map a.eval) w (by simpa using hx) (hv.globIn t hA)
    unfold Oper.wp
    rw [run_call ho hcal, h1]
    simp only [Oper.upon]
    refine h2.mono ?_
    rintro e w' ⟨v', rfl, k1, kst, k2, k3⟩
    exact K v' w' ⟨kst, k2, k3, k1 φ⟩
  · have hq' : qop e fr H nid = some (v, ob) := by
      cases e <;> first | exact hq | exact absurd ⟨_, _, rfl⟩ hp
    obtain ⟨v', w', h1, hst, h2⟩ := qop_sound hv hn (hv.gAt t hA) hf hc hl (fun f args h => hp ⟨f, args, h⟩) hq'
    unfold Oper.wp
    rw [h1]
    simp only [Oper.upon]
    refine K v' w' ⟨hst, ?_⟩
    cases ob with
    | none => exact ⟨by rw [h2.1]; exact Nat.le_refl _, fun b hb => by rw [h2.1], h2.2⟩
    | some b => exact h2

theorem call_of {f : FuncId} {args : List EO} (hc : compOp P pf o.op = some (.call f args)) : ∃ c, o.op = .call c ∧ c.callee = .value (.func f) ∧ opnds P.globals.size c.args.toList = some args := by
  cases ho : o.op with
  | call c =>
    rw [ho] at hc
    simp only [compOp] at hc
    unfold compCall at hc
    split at hc
    · rename_i f' hcal
      split at hc
      · rename_i fn args' h1 h2
        split at hc
        · injection hc with hc
          split at hc
          · simp at hc
          · injection hc with e1 e2
            subst e1; subst e2
            exact ⟨c, rfl, hcal, h2⟩
        · simp at hc
      · simp at hc
    · split at hc <;> simp at hc
    · simp at hc
    · repeat' split at hc
      all_goals first | (simp at hc; done) | (obtain ⟨x', h1, h2⟩ := map_some hc; simp at h2)
  | binOp op t x y yt =>
    rw [ho] at hc
    simp only [compOp] at hc
    split at hc
    · unfold binK at hc
      repeat' split at hc
      all_goals simp at hc
    · simp at hc
  | next it s => rw [ho] at hc; cases s <;> simp [compOp] at hc
  | move x => rw [ho] at hc; simp [compOp] at hc
  | assign x => rw [ho] at hc; simp [compOp] at hc
  | alloc x => rw [ho] at hc; simp [compOp] at hc
  | nilCheck x => rw [ho] at hc; simp [compOp] at hc
  | unOp op t x => rw [ho] at hc; simp [compOp] at hc
  | extract x i => rw [ho] at hc; simp [compOp] at hc
  | panic x => rw [ho] at hc; simp [compOp] at hc
  | pick x y z | box x y | load x y | store x y z | makeInterface x y | makeFunc x y z | makeSlice x y z | slice x y z u q | fieldAddr x y z | field x y z | indexAddr x y z | index x y z | range x y | typeAssert x y z u | convert x y z | build x y | buildSlice x y z =>
    rw [ho] at hc
    simp only [compOp] at hc
    repeat' split at hc
    all_goals first | (simp at hc; done) | (obtain ⟨x', h1, h2⟩ := map_some hc; simp at h2)
  | _ => rw [ho] at hc; simp [compOp] at hc

theorem callv_of {x : EO} {args : List EO} (hc : compOp P pf o.op = some (.callv x args)) : ∃ c y, o.op = .call c ∧ c.callee = .value y ∧ opnd P.globals.size y = some x ∧ opnds P.globals.size c.args.toList = some args := by
  cases ho : o.op with
  | call c =>
    rw [ho] at hc
    simp only [compOp] at hc
    unfold compCall at hc
    split at hc
    · split at hc
      · split at hc
        · injection hc with hc
          split at hc <;> simp at hc
        · simp at hc
      · simp at hc
    · rename_i y hcal
      split at hc
      · rename_i x' args' h1 h2
        injection hc with hc
        injection hc with e1 e2
        subst e1; subst e2
        exact ⟨c, _, rfl, hcal, h1, h2⟩
      · simp at hc
    · simp at hc
    · repeat' split at hc
      all_goals first | (simp at hc; done) | (obtain ⟨x', h1, h2⟩ := map_some hc; simp at h2)
  | binOp op t x y yt =>
    rw [ho] at hc
    simp only [compOp] at hc
    split at hc
    · unfold binK at hc
      repeat' split at hc
      all_goals simp at hc
    · simp at hc
  | next it s => rw [ho] at hc; cases s <;> simp [compOp] at hc
  | move x => rw [ho] at hc; simp [compOp] at hc
  | assign x => rw [ho] at hc; simp [compOp] at hc
  | alloc x => rw [ho] at hc; simp [compOp] at hc
  | nilCheck x => rw [ho] at hc; simp [compOp] at hc
  | unOp op t x => rw [ho] at hc; simp [compOp] at hc
  | extract x i => rw [ho] at hc; simp [compOp] at hc
  | panic x => rw [ho] at hc; simp [compOp] at hc
  | pick x y z | box x y | load x y | store x y z | makeInterface x y | makeFunc x y z | makeSlice x y z | slice x y z u q | fieldAddr x y z | field x y z | indexAddr x y z | index x y z | range x y | typeAssert x y z u | convert x y z | build x y | buildSlice x y z =>
    rw [ho] at hc
    simp only [compOp] at hc
    repeat' split at hc
    all_goals first | (simp at hc; done) | (obtain ⟨x', h1, h2⟩ := map_some hc; simp at h2)
  | _ => rw [ho] at hc; simp [compOp] at hc

/-- One loud operation. -/
theorem loud_wp (t : Tie P pf E) (cg : CallsGood P E cf) (hA : A.G = E.glob) (hv : Inv A φ H w.heap) (hf : FR φ nt fr a.tmps) (hd : a.defers = []) (hc : compOp P pf o.op = some e) (hl : e.loud = true)
    (hq : lop cf e fr H = some (v, H')) (K : ∀ φ' v' w', Grow φ H φ' H' → Inv A φ' H' w'.heap → Still w w' → VR φ' v v' → next (a.put o.dst v') w') : o.wp P a w next Q := by
  have fin : ∀ (f : FuncId) (args : List V) (args' : Array Value), cf f args H = some (v, H') → VRs φ args args'.toList → (execOp a.eval o).run P w = (callFunc f args').run P w → o.wp P a w next Q := by
    intro f args args' h1 h2 h3
    obtain ⟨k1, k2⟩ := cg f args H v H' h1 A φ w args' hA hv h2
    unfold Oper.wp
    rw [h3, k1]
    simp only [Oper.upon]
    refine k2.mono ?_
    rintro e w' ⟨φ', v', rfl, m1, m2, mst, m3⟩
    exact K φ' v' w' m1 m2 mst m3
  by_cases hp : ∃ f args, e = .call f args
  · obtain ⟨f, args, rfl⟩ := hp
    simp only [lop] at hq
    obtain ⟨c, ho, hcal, hargs⟩ := call_of hc
    have hx := opnds_sound (hv.gAt t hA) hf hargs
    exact fin f _ (c.args.map a.eval) hq (by simpa using hx) (run_call ho hcal)
  · by_cases hp2 : ∃ x args, e = .callv x args
    · obtain ⟨x, args, rfl⟩ := hp2
      simp only [lop] at hq
      obtain ⟨c, y, ho, hcal, hy, hargs⟩ := callv_of hc
      have hx := opnds_sound (hv.gAt t hA) hf hargs
      have hyv := opnd_sound (hv.gAt t hA) hf hy
      split at hq
      · rename_i f first cap hev
        rw [hev] at hyv
        obtain ⟨first', cap', h1, h2, h3⟩ := hyv.of_fn
        exact fin f _ (first' ++ c.args.map a.eval ++ cap') hq (by simpa using (h2.append hx).append h3) (run_callv ho hcal h1)
      · simp at hq
    · obtain ⟨φ', w', h1, h2, hst, h3⟩ := lop_sound hv (hv.gAt t hA) hf hc hl (fun f args h => hp ⟨f, args, h⟩) (fun x args h => hp2 ⟨x, args, h⟩) hq
      unfold Oper.wp
      rcases h3 with ⟨v', h3, h4⟩ | ⟨h3, h4⟩
      · rw [h3]; simp only [Oper.upon]; exact K φ' v' w' h1 h2 hst h4
      · rw [h3]; simp only [Oper.upon]; subst h4; exact K φ' _ w' h1 h2 hst VR.undef

theorem wanted_iff {ops : Array Oper} {eo : EOper} (hf : FR φ nt fr a.tmps) (hgd : compGuard ops o.guard = some eo.guard) : Region.wanted o (yielded ops a.tmps) = wantedA eo fr := by
  unfold Region.wanted wantedA
  cases hg : o.guard with
  | none => rw [hg] at hgd; simp [compGuard] at hgd; rw [← hgd]
  | some jb =>
    obtain ⟨j, b⟩ := jb
    rw [hg] at hgd
    simp only [compGuard] at hgd
    split at hgd
    · rename_i t ht
      injection hgd with hgd
      rw [← hgd]
      simp only [yielded, ht, Option.bind_some]
      have hv := hf.val t
      cases hft : fr.get t with
      | none =>
        rw [hft] at hv
        simp only [Option.getD_none] at hv
        have h0 : a.tmps.getD t Go.undef = Go.undef := by
          obtain ⟨cs, h1, h2⟩ := VR.of_tup hv
          have := h2.1; simp at this
          rw [h1]
          have : cs = #[] := Array.eq_empty_of_size_eq_zero (by omega)
          rw [this]; rfl
        cases hat : a.tmps[t]? with
        | none => simp
        | some x =>
          rw [Array.getD_eq_getD_getElem?, hat] at h0
          simp at h0
          subst h0
          simp [Go.undef]
      | some x =>
        rw [hft] at hv
        simp only [Option.getD_some] at hv
        cases hat : a.tmps[t]? with
        | none =>
          rw [Array.getD_eq_getD_getElem?, hat] at hv
          simp at hv
          cases x <;> first | rfl | (cases hv; done)
          all_goals simp
        | some y =>
          rw [Array.getD_eq_getD_getElem?, hat] at hv
          simp at hv
          cases x with
          | bool c => rw [hv.of_bool]; cases b <;> cases c <;> rfl
          | _ => cases hv <;> rfl
    · simp at hgd

end
end Go.Ev
