/- Each quiet operation of the evaluator is what the model does: all of them in one theorem. -/
import Derived.Test.YtdalcnjdpfnjjaaGreatDoorEvJ
set_option linter.unusedSimpArgs false
set_option linter.unusedVariables false
namespace Go.Ev
open Go

section
variable {P : Program} {w : World} {A : Around} {φ : Fi} {H : Heap} {nt : Nat} {fr : Fr} {a : Act} {nid : Nat} {pf : FuncId → Bool} {v : V} {ob : Option Obj} {e : EOp}

theorem q_makeSlice {t : TypeId} {l c : Operand} (hn : φ nid = none) (hc : compOp P pf (.makeSlice t l c) = some e) (hg : GlobAt φ P.globals.size) (hf : FR φ nt fr a.tmps) (hq : qop e fr H nid = some (v, ob)) :
    QGood φ w nid v ob ((do pure (Next.value (← Instr.makeSlice t (a.eval l) (a.eval c))) : Sem Next).run P w) := by
  simp only [compOp] at hc
  split at hc
  · rename_i el hu
    split at hc
    · rename_i l' c' z i h1 h2 h3 h4
      injection hc with hc; subst hc
      have hl := opnd_sound hg hf h1
      have hcc := opnd_sound hg hf h2
      simp only [qop] at hq
      split at hq
      · rename_i ln cn e1 e2
        split at hq
        · rename_i hcond
          obtain ⟨q1, q2, q3, q4, q5, q6⟩ := hcond
          simp at hq; obtain ⟨rfl, rfl⟩ := hq
          rw [e1] at hl; rw [e2] at hcc
          obtain ⟨zv, z1, z2, z3, z4, z5, z6⟩ := run_zero h3 w
          have hsz : P.cellsOf el = i.size := by simp [Program.cellsOf, h4]
          have wl : IntKind.i64.wrap ln = ln := by
            have : IntKind.i64.bits = 64 := rfl
            unfold IntKind.wrap
            simp only [this, IntKind.signed]
            have : ln % 2 ^ 64 = ln := Int.emod_eq_of_lt q1 (by omega)
            rw [this]
            simp; omega
          have wc : IntKind.i64.wrap cn = cn := by
            have : IntKind.i64.bits = 64 := rfl
            unfold IntKind.wrap
            simp only [this, IntKind.signed]
            have : cn % 2 ^ 64 = cn := Int.emod_eq_of_lt (by omega) (by omega)
            rw [this]
            simp; omega
          let cells : Array Value := (Array.range (cn.toNat * i.size)).map (zv.cells[· % zv.cells.size]!)
          have hcs : cells.size = cn.toNat * i.size := by simp [cells]
          have hb : VRs (φ.put nid w.heap.size 0 cells.size) (rep cn.toNat z) cells.toList := rep_zero (z2 _) (by omega) cn.toNat _ (by rw [z3, hsz])
          refine .semNew (v' := .slice (some ⟨w.heap.size, 0, none⟩) ln.toNat cn.toNat) (w' := { w with heap := w.heap.push (.cells cells el) }) (sz := cells.size) ?_ rfl (VR.newSl _ _ _ _ _ _ _ _ (by omega) (by intro h; simp at h; omega) (by omega)) (Bears.new' hb)
          rw [hl.of_int, hcc.of_int]
          have t1 : ¬ ((decide (cn < 0) || decide ((i.bytes : Int) * cn > 2 ^ 48) || decide (ln < 0) || decide (ln > cn)) = true) := by
            simp; omega
          simp only [Instr.makeSlice, Sem.run_bind, run_under hu, Result.andThen_ok, asInt, asIntOf, Sem.run_pure, run_info h4, wl, wc]
          rw [if_neg t1]
          simp only [Sem.run_bind, Sem.run_pure, Result.andThen_ok, run_askRoom, run_sizeOf' h4]
          by_cases h0 : cn.toNat * i.size = 0
          · have hr : ∀ f : Nat → Value, Array.map f (Array.range (cn.toNat * i.size)) = #[] := by intro f; apply Array.ext'; simp [h0]
            simp only [if_pos h0, Sem.run_bind, Sem.run_pure, Result.andThen_ok, cells, hr, run_newRow]
          · simp only [if_neg h0, Sem.run_bind, z1, Result.andThen_ok, Sem.run_pure, run_newRow, cells]
        · simp at hq
      · simp at hq
    · simp at hc
  · simp at hc

theorem q_fieldAddr {t : TypeId} {x : Operand} {k : Nat} (hc : compOp P pf (.fieldAddr t x k) = some e) (hg : GlobAt φ P.globals.size) (hf : FR φ nt fr a.tmps) (hq : qop e fr H nid = some (v, ob)) :
    QGood φ w nid v ob ((do pure (Next.value (← Instr.fieldAt t (a.eval x) k)) : Sem Next).run P w) := by
  simp only [compOp] at hc
  split at hc
  · rename_i fs x' hu h1
    split at hc
    · rename_i fd hfd
      split at hc
      · rename_i hpos
        injection hc with hc; subst hc
        have hx := opnd_sound hg hf h1
        simp only [qop] at hq
        split at hq
        · rename_i i o e1
          simp at hq; obtain ⟨rfl, rfl⟩ := hq
          rw [e1] at hx
          obtain ⟨b, d, sz, f1, f2⟩ := hx.of_ptr
          refine .sem (v' := .pointer (some ⟨b, d + (o + fd.offset), none⟩)) ?_ (.ptr i (o + fd.offset) b d sz f1)
          have hne : ¬ P.cellsOf fd.type = 0 := by omega
          simp [Instr.fieldAt, run_under hu, hfd, f2, Instr.sureAddr, fieldPlace, run_sizeOf_pos hpos, hne, addr_add, Nat.add_assoc]
        · simp at hq
      · simp at hc
    · simp at hc
  · simp at hc

theorem q_field {t : TypeId} {x : Operand} {k : Nat} (hc : compOp P pf (.field t x k) = some e) (hg : GlobAt φ P.globals.size) (hf : FR φ nt fr a.tmps) (hq : qop e fr H nid = some (v, ob)) :
    QGood φ w nid v ob ((do pure (Next.value (← Instr.field t (a.eval x) k)) : Sem Next).run P w) := by
  simp only [compOp] at hc
  split at hc
  · rename_i fs x' hu h1
    split at hc
    · rename_i fd hfd
      split at hc
      · rename_i hagg
        split at hc
        · rename_i hpos
          injection hc with hc; subst hc
          have hx := opnd_sound hg hf h1
          simp only [qop] at hq
          split at hq
          · rename_i cs e1
            split at hq
            · rename_i hle
              simp at hq; obtain ⟨rfl, rfl⟩ := hq
              rw [e1] at hx
              obtain ⟨xs, f1, f2⟩ := hx.of_agg
              refine .sem (v' := .agg (xs.extract fd.offset (fd.offset + P.cellsOf fd.type))) ?_ (.agg' (f2.extract _ _))
              simp [Instr.field, run_under hu, hfd, f1, asAgg, part, run_isAgg hagg, run_sizeOf_pos hpos]
            · simp at hq
          · simp at hq
        · simp at hc
      · rename_i hagg
        injection hc with hc; subst hc
        have hx := opnd_sound hg hf h1
        simp only [qop] at hq
        split at hq
        · rename_i cs e1
          split at hq
          · rename_i y hy
            simp at hq; obtain ⟨rfl, rfl⟩ := hq
            rw [e1] at hx
            obtain ⟨xs, f1, f2⟩ := hx.of_agg
            obtain ⟨y', g1, g2⟩ := f2.get hy
            rw [Array.getElem?_toList] at g1
            refine .sem (v' := y') ?_ g2
            simp [Instr.field, run_under hu, hfd, f1, asAgg, part, run_isAgg hagg, g1]
          · simp at hq
        · simp at hq
      · simp at hc
    · simp at hc
  · simp at hc

theorem q_indexAddr {t : TypeId} {x i : Operand} (hc : compOp P pf (.indexAddr t x i) = some e) (hg : GlobAt φ P.globals.size) (hf : FR φ nt fr a.tmps) (hq : qop e fr H nid = some (v, ob)) :
    QGood φ w nid v ob ((do pure (Next.value (← Instr.indexAt t (a.eval x) (a.eval i))) : Sem Next).run P w) := by
  simp only [compOp] at hc
  split at hc
  · rename_i el x' i' hu h1 h2
    split at hc
    · rename_i hpos
      injection hc with hc; subst hc
      have hx := opnd_sound hg hf h1
      have hi := opnd_sound hg hf h2
      simp only [qop] at hq
      split at hq
      · rename_i b o n es' f k0 k e1 e2
        split at hq
        · rename_i hcond
          obtain ⟨rfl, q1, q2⟩ := hcond
          simp at hq; obtain ⟨rfl, rfl⟩ := hq
          rw [e1] at hx; rw [e2] at hi
          rcases hx.of_sl with ⟨b', d, sz, c, f1, f2, f3, f4, f5⟩ | ⟨rfl, _⟩
          · refine .sem (v' := .pointer (some ⟨b', d + (o + k.toNat * P.cellsOf el), none⟩)) ?_ (.ptr b _ b' d sz f1)
            simp [Instr.indexAt, hi.of_int, asIntOf, run_under hu, f5, q1, q2, run_sizeOf_pos hpos, addr_add, Nat.add_assoc]
          · omega
        · simp at hq
      · simp at hq
    · simp at hc
  · rename_i n el x' i' hu h1 h2
    split at hc
    · rename_i hpos
      injection hc with hc; subst hc
      have hx := opnd_sound hg hf h1
      have hi := opnd_sound hg hf h2
      simp only [qop] at hq
      split at hq
      · rename_i b o k0 k e1 e2
        split at hq
        · rename_i hcond
          obtain ⟨q1, q2⟩ := hcond
          simp at hq; obtain ⟨rfl, rfl⟩ := hq
          rw [e1] at hx; rw [e2] at hi
          obtain ⟨b', d, sz, f1, f2⟩ := hx.of_ptr
          refine .sem (v' := .pointer (some ⟨b', d + (o + k.toNat * P.cellsOf el), none⟩)) ?_ (.ptr b _ b' d sz f1)
          simp [Instr.indexAt, hi.of_int, asIntOf, run_under hu, f2, q1, q2, run_sizeOf_pos hpos, addr_add, Nat.add_assoc, Instr.sureAddr]
        · simp at hq
      · simp at hq
    · simp at hc
  · simp at hc

theorem q_index {t : TypeId} {x i : Operand} (hc : compOp P pf (.index t x i) = some e) (hg : GlobAt φ P.globals.size) (hf : FR φ nt fr a.tmps) (hq : qop e fr H nid = some (v, ob)) :
    QGood φ w nid v ob ((do pure (Next.value (← Instr.index t (a.eval x) (a.eval i))) : Sem Next).run P w) := by
  simp only [compOp] at hc
  split at hc
  · rename_i x' i' hu h1 h2
    injection hc with hc; subst hc
    have hx := opnd_sound hg hf h1
    have hi := opnd_sound hg hf h2
    simp only [qop] at hq
    split at hq
    · rename_i s k0 k e1 e2
      split at hq
      · rename_i hk
        split at hq
        · rename_i b hb
          simp at hq; obtain ⟨rfl, rfl⟩ := hq
          rw [e1] at hx; rw [e2] at hi
          obtain ⟨bs, f1, rfl⟩ := hx.of_str
          rw [ofBytes_get] at hb
          obtain ⟨b', g1, rfl⟩ := map_some hb
          refine .sem (v' := .int .u8 (b'.toNat : Int)) ?_ (.int _ _)
          simp only [Instr.index, Sem.run_bind, hi.of_int, asIntOf, Sem.run_pure, Result.andThen_ok, run_under hu, f1, if_pos hk, g1]
        · simp at hq
      · simp at hq
    · simp at hq
  · rename_i n el x' i' hu h1 h2
    split at hc
    · rename_i hagg
      split at hc
      · rename_i hpos
        injection hc with hc; subst hc
        have hx := opnd_sound hg hf h1
        have hi := opnd_sound hg hf h2
        simp only [qop] at hq
        split at hq
        · rename_i cs k0 k e1 e2
          split at hq
          · rename_i hcond
            obtain ⟨q1, q2, q3⟩ := hcond
            simp at hq; obtain ⟨rfl, rfl⟩ := hq
            rw [e1] at hx; rw [e2] at hi
            obtain ⟨xs, f1, f2⟩ := hx.of_agg
            refine .sem (v' := .agg (xs.extract (k.toNat * P.cellsOf el) (k.toNat * P.cellsOf el + P.cellsOf el))) ?_ (.agg' (f2.extract _ _))
            simp [Instr.index, hi.of_int, asIntOf, run_under hu, f1, q1, q2, part, run_isAgg hagg, run_sizeOf_pos hpos]
          · simp at hq
        · simp at hq
      · simp at hc
    · rename_i hagg
      split at hc
      · rename_i hpos
        injection hc with hc; subst hc
        have hx := opnd_sound hg hf h1
        have hi := opnd_sound hg hf h2
        simp only [qop] at hq
        split at hq
        · rename_i cs k0 k e1 e2
          split at hq
          · rename_i hcond
            obtain ⟨q1, q2⟩ := hcond
            split at hq
            · rename_i y hy
              simp at hq; obtain ⟨rfl, rfl⟩ := hq
              rw [e1] at hx; rw [e2] at hi
              obtain ⟨xs, f1, f2⟩ := hx.of_agg
              obtain ⟨y', g1, g2⟩ := f2.get hy
              rw [Array.getElem?_toList] at g1
              refine .sem (v' := y') ?_ g2
              simp [Instr.index, hi.of_int, asIntOf, run_under hu, f1, q1, q2, part, run_isAgg hagg, run_sizeOf_pos hpos, g1]
            · simp at hq
          · simp at hq
        · simp at hq
      · simp at hc
    · simp at hc
  · simp at hc

theorem q_range {t : TypeId} {x : Operand} (hc : compOp P pf (.range t x) = some e) (hg : GlobAt φ P.globals.size) (hf : FR φ nt fr a.tmps) (hq : qop e fr H nid = some (v, ob)) :
    QGood φ w nid v ob ((do pure (Next.value (← Instr.range t (a.eval x))) : Sem Next).run P w) := by
  simp only [compOp] at hc
  split at hc
  · rename_i x' hu h1
    injection hc with hc; subst hc
    have hx := opnd_sound hg hf h1
    simp only [qop] at hq
    split at hq
    · rename_i s e1
      simp at hq; obtain ⟨rfl, rfl⟩ := hq
      rw [e1] at hx
      obtain ⟨bs, f1, f2⟩ := hx.of_str
      refine .semNew (v' := .pointer (some ⟨w.heap.size, 0, none⟩)) (w' := { w with heap := w.heap.push (.stringIter bs 0) }) (sz := 0) ?_ rfl (VR.new0 _ _ _ _) ⟨rfl, bs, rfl, f2⟩
      simp [Instr.range, run_under hu, f1]
    · simp at hq
  · simp at hc

theorem VR.of_iface {t : TypeId} {x : V} {v' : Value} (r : VR φ (.iface t x) v') : ∃ y, v' = .iface t y ∧ VR φ x y := by cases r with | iface _ _ y h => exact ⟨y, rfl, h⟩
theorem VR.of_nilI {v' : Value} (r : VR φ .nilI v') : v' = .nilIface := by cases r; rfl

theorem q_typeAssert {xt t : TypeId} {x : Operand} {ok : Bool} (hc : compOp P pf (.typeAssert x xt t ok) = some e) (hg : GlobAt φ P.globals.size) (hf : FR φ nt fr a.tmps) (hq : qop e fr H nid = some (v, ob)) :
    QGood φ w nid v ob ((do pure (Next.value (← Instr.typeAssert (a.eval x) xt t ok)) : Sem Next).run P w) := by
  simp only [compOp] at hc
  split at hc
  · simp at hc
  · rename_i d x' z hni hu h1 hz
    injection hc with hc; subst hc
    have hx := opnd_sound hg hf h1
    have hzero : ∃ z', (zeroValue t).run P w = .ok z' w ∧ VR φ z z' := by
      unfold zeroV at hz
      cases hi : P.info? t with
      | none => simp [hi] at hz
      | some i =>
        simp only [hi, Option.bind_some] at hz
        cases hzz : i.zero with
        | none => simp [hzz] at hz
        | some z' => simp only [hzz, Option.bind_some] at hz; exact ⟨z', by simp [zeroValue, run_info hi, hzz], constV_sound hz⟩
    obtain ⟨z', hz1, hz2⟩ := hzero
    have fails : ∀ (s d' : Option TypeId) (m : String), (do if true = true then pure (.tuple #[← zeroValue t, .bool false]) else runtimePanic (.typeAssertion s d' t m) : Sem Value).run P w = .ok (.tuple #[z', .bool false]) w := by
      intro s d' m; simp [hz1]
    have hni' : ∀ ms, d ≠ .interface ms := fun ms h => by subst h; exact hni ms rfl
    simp only [qop] at hq
    split at hq
    · rename_i t' y e1
      rw [e1] at hx
      obtain ⟨y', hx', hy⟩ := hx.of_iface
      split at hq
      · rename_i ht
        subst ht
        simp at hq; obtain ⟨rfl, rfl⟩ := hq
        refine .sem (v' := if ok then .tuple #[y', .bool true] else y') ?_ ?_
        · rw [hx']
          simp only [Instr.typeAssert, Sem.run_bind, run_under hu, Result.andThen_ok]
          cases d <;> first | (exact absurd rfl (hni' _)) | (simp; done) | (simp; rfl)
        · cases ok with
          | true => exact .tup' (.cons hy (.cons (.bool _) (.nil _)))
          | false => exact hy
      · rename_i ht
        split at hq
        · rename_i hok; subst hok
          simp at hq; obtain ⟨rfl, rfl⟩ := hq
          refine .sem (v' := .tuple #[z', .bool false]) ?_ (.tup' (.cons hz2 (.cons (.bool _) (.nil _))))
          rw [hx']
          simp only [Instr.typeAssert, Sem.run_bind, run_under hu, Result.andThen_ok]
          cases d <;> first | (exact absurd rfl (hni' _)) | (simp [ht, hz1])
        · simp at hq
    · rename_i e1
      rw [e1] at hx
      have hx' := hx.of_nilI
      split at hq
      · rename_i hok; subst hok
        simp at hq; obtain ⟨rfl, rfl⟩ := hq
        refine .sem (v' := .tuple #[z', .bool false]) ?_ (.tup' (.cons hz2 (.cons (.bool _) (.nil _))))
        rw [hx']
        simp only [Instr.typeAssert, Sem.run_bind, run_under hu, Result.andThen_ok]
        cases d <;> first | (exact absurd rfl (hni' _)) | (simp [hz1])
      · simp at hq
    · simp at hq
  · simp at hc

theorem q_extract {x : Operand} {i : Nat} (hc : (opnd P.globals.size x).map (EOp.ext · i) = some e) (hg : GlobAt φ P.globals.size) (hf : FR φ nt fr a.tmps) (hq : qop e fr H nid = some (v, ob)) :
    QGood φ w nid v ob ((do pure (Next.value (← Instr.extract (a.eval x) i)) : Sem Next).run P w) := by
  obtain ⟨x', h1, rfl⟩ := map_some hc
  have hx := opnd_sound hg hf h1
  simp only [qop] at hq
  split at hq
  · rename_i vs e1
    split at hq
    · rename_i y hy
      simp at hq; obtain ⟨rfl, rfl⟩ := hq
      rw [e1] at hx
      obtain ⟨xs, f1, f2⟩ := hx.of_tup
      obtain ⟨y', g1, g2⟩ := f2.get hy
      rw [Array.getElem?_toList] at g1
      exact .sem (v' := y') (by simp [Instr.extract, f1, g1]) g2
    · simp at hq
  · simp at hq

/-- A call of a builtin. -/
theorem run_builtin {b : Builtin} {c : Call} {o : Oper} (ho : o.op = .call c) (hb : c.callee = .builtin b) {s : Sem Value}
    (h : ∀ consts : Array Bool, builtin b c.argTypes o.type consts (c.args.map a.eval) = (do pure (Next.value (← s)))) :
    (execOp a.eval o).run P w = (do pure (Next.value (← s)) : Sem Next).run P w := by
  simp only [execOp, ho, resolve, hb, invoke]
  change (builtin b c.argTypes o.type _ (c.args.map a.eval)).run P w = _
  rw [h]

theorem args1 {c : Call} {x : Operand} (h : c.args.toList = [x]) : c.args.map a.eval = #[a.eval x] := by
  apply Array.ext'; simp [h]
theorem args2 {c : Call} {x y : Operand} (h : c.args.toList = [x, y]) : c.args.map a.eval = #[a.eval x, a.eval y] := by
  apply Array.ext'; simp [h]

theorem max_fold : ∀ (vs : List V) (ls : List Value) (x : V) (x' : Value) (r : V), VR φ x x' → VRs φ vs ls → maxA x vs = some r → ∃ r', (ls.foldlM Builtin.max2 x').run P w = .ok r' w ∧ VR φ r r'
  | [], ls, x, x', r, hx, h, hm => by
    simp [maxA] at hm; subst hm
    rw [h.of_nil]; exact ⟨x', rfl, hx⟩
  | y :: vs, ls, x, x', r, hx, h, hm => by
    obtain ⟨y', ls', rfl, h1, h2⟩ := h.of_cons
    cases x <;> cases y <;> simp [maxA] at hm
    rename_i k n l m
    obtain ⟨r', e1, e2⟩ := max_fold vs ls' _ _ r (.int k (if m > n then m else n)) h2 hm
    refine ⟨r', ?_, e2⟩
    rw [hx.of_int, h1.of_int]
    simp only [List.foldlM_cons, Builtin.max2, Sem.run_bind, Sem.run_pure, Result.andThen_ok]
    exact e1
theorem min_fold : ∀ (vs : List V) (ls : List Value) (x : V) (x' : Value) (r : V), VR φ x x' → VRs φ vs ls → minA x vs = some r → ∃ r', (ls.foldlM Builtin.min2 x').run P w = .ok r' w ∧ VR φ r r'
  | [], ls, x, x', r, hx, h, hm => by
    simp [minA] at hm; subst hm
    rw [h.of_nil]; exact ⟨x', rfl, hx⟩
  | y :: vs, ls, x, x', r, hx, h, hm => by
    obtain ⟨y', ls', rfl, h1, h2⟩ := h.of_cons
    cases x <;> cases y <;> simp [minA] at hm
    rename_i k n l m
    obtain ⟨r', e1, e2⟩ := min_fold vs ls' _ _ r (.int k (if m < n then m else n)) h2 hm
    refine ⟨r', ?_, e2⟩
    rw [hx.of_int, h1.of_int]
    simp only [List.foldlM_cons, Builtin.min2, Sem.run_bind, Sem.run_pure, Result.andThen_ok]
    exact e1

theorem q_call {c : Call} {o : Oper} (ho : o.op = .call c) (hc : compCall P pf c = some e) (hl : e.loud = false) (hp : ∀ f args, e ≠ .pcall f args) (hg : GlobAt φ P.globals.size) (hf : FR φ nt fr a.tmps) (hq : qop e fr H nid = some (v, ob)) :
    QGood φ w nid v ob ((execOp a.eval o).run P w) := by
  unfold compCall at hc
  split at hc
  · rename_i f hcal
    split at hc
    · split at hc
      · injection hc with hc
        subst hc
        split at hl
        · rename_i hpf
          simp only [hpf, if_true] at hp
          exact absurd rfl (hp _ _)
        · simp [EOp.loud] at hl
      · simp at hc
    · simp at hc
  · rename_i x hcal
    split at hc
    · injection hc with hc; subst hc; simp [EOp.loud] at hl
    · simp at hc
  · simp at hc
  · rename_i b hcal
    split at hc
    · -- append
      split at hc
      · split at hc
        · injection hc with hc; subst hc; simp [EOp.loud] at hl
        · simp at hc
      · split at hc
        · injection hc with hc; subst hc; simp [EOp.loud] at hl
        · simp at hc
      · simp at hc
    · -- len
      split at hc
      · rename_i x n el ha ht
        split at hc
        · rename_i x' hx'
          injection hc with hc; subst hc
          simp [qop, ev] at hq
          obtain ⟨rfl, rfl⟩ := hq
          obtain ⟨t, ht1, ht2⟩ := Option.bind_eq_some_iff.1 ht
          rw [run_builtin ho hcal (s := Builtin.len_ c.argTypes o.type (c.args.map a.eval)) (fun _ => rfl)]
          refine .sem (v' := .int .i64 n) ?_ (.int _ _)
          rw [args1 ha]
          simp [Builtin.len_, ht1, run_under ht2, goInt]
        · simp at hc
      · rename_i x ha ht
        obtain ⟨x', h1, rfl⟩ := map_some hc
        have hx := opnd_sound hg hf h1
        obtain ⟨t, ht1, ht2⟩ := Option.bind_eq_some_iff.1 ht
        rw [run_builtin ho hcal (s := Builtin.len_ c.argTypes o.type (c.args.map a.eval)) (fun _ => rfl), args1 ha]
        simp only [qop] at hq
        split at hq
        · rename_i s e1
          simp at hq; obtain ⟨rfl, rfl⟩ := hq
          rw [e1] at hx
          obtain ⟨bs, f1, rfl⟩ := hx.of_str
          refine .sem (v' := .int .i64 (bs.size : Int)) ?_ (by rw [ofBytes_size]; exact .int _ _)
          simp [Builtin.len_, ht1, run_under ht2, goInt, f1]
        · simp at hq
      · rename_i x el ha ht
        obtain ⟨x', h1, rfl⟩ := map_some hc
        have hx := opnd_sound hg hf h1
        obtain ⟨t, ht1, ht2⟩ := Option.bind_eq_some_iff.1 ht
        rw [run_builtin ho hcal (s := Builtin.len_ c.argTypes o.type (c.args.map a.eval)) (fun _ => rfl), args1 ha]
        simp only [qop] at hq
        split at hq
        · rename_i e1
          simp at hq; obtain ⟨rfl, rfl⟩ := hq
          rw [e1] at hx
          refine .sem (v' := .int .i64 0) ?_ (.int _ _)
          simp [Builtin.len_, ht1, run_under ht2, goInt, hx.of_nils]
        · rename_i i o' n es f e1
          simp at hq; obtain ⟨rfl, rfl⟩ := hq
          rw [e1] at hx
          have : ∃ ad cc, a.eval x = .slice ad n cc := by
            rcases hx.of_sl with ⟨b, d, sz, cc, _, _, _, _, f5⟩ | ⟨rfl, ad, _, f5⟩
            · exact ⟨_, _, f5⟩
            · exact ⟨_, _, f5⟩
          obtain ⟨ad, cc, f5⟩ := this
          refine .sem (v' := .int .i64 (n : Int)) ?_ (.int _ _)
          simp [Builtin.len_, ht1, run_under ht2, goInt, f5]
        · simp at hq
      · simp at hc
    · -- cap
      split at hc
      · rename_i x el ha ht
        obtain ⟨x', h1, rfl⟩ := map_some hc
        have hx := opnd_sound hg hf h1
        obtain ⟨t, ht1, ht2⟩ := Option.bind_eq_some_iff.1 ht
        rw [run_builtin ho hcal (s := Builtin.cap_ c.argTypes o.type (c.args.map a.eval)) (fun _ => rfl), args1 ha]
        simp only [qop] at hq
        split at hq
        · rename_i e1
          simp at hq; obtain ⟨rfl, rfl⟩ := hq
          rw [e1] at hx
          refine .sem (v' := .int .i64 0) ?_ (.int _ _)
          simp [Builtin.cap_, ht1, run_under ht2, goInt, hx.of_nils]
        · rename_i i o' n es e1
          simp at hq; obtain ⟨rfl, rfl⟩ := hq
          rw [e1] at hx
          have : ∃ ad, a.eval x = .slice ad n n := by
            rcases hx.of_sl with ⟨b, d, sz, cc, _, _, f3, _, f5⟩ | ⟨rfl, ad, _, f5⟩
            · rw [f3 rfl] at f5; exact ⟨_, f5⟩
            · exact ⟨_, f5⟩
          obtain ⟨ad, f5⟩ := this
          refine .sem (v' := .int .i64 (n : Int)) ?_ (.int _ _)
          simp [Builtin.cap_, ht1, run_under ht2, goInt, f5]
        · simp at hq
      · simp at hc
    · -- copy
      split at hc
      · split at hc
        · split at hc
          · injection hc with hc; subst hc; simp [EOp.loud] at hl
          · simp at hc
        · simp at hc
      · simp at hc
    · -- clear
      split at hc
      · split at hc
        · injection hc with hc; subst hc; simp [EOp.loud] at hl
        · simp at hc
      · simp at hc
    · -- max
      obtain ⟨xs, h1, rfl⟩ := map_some hc
      have hx := opnds_sound hg hf h1
      rw [run_builtin ho hcal (s := Builtin.max_ c.argTypes o.type (c.args.map a.eval)) (fun _ => rfl)]
      simp only [qop] at hq
      split at hq
      · rename_i z zs hz
        obtain ⟨r, hr, h⟩ := map_some hq
        simp at h; obtain ⟨rfl, rfl⟩ := h
        rw [hz] at hx
        obtain ⟨z', zs', hzz, g1, g2⟩ := hx.of_cons
        obtain ⟨r', e1, e2⟩ := max_fold (P := P) (w := w) zs zs' z z' r g1 g2 hr
        refine .sem (v' := r') ?_ e2
        have : (c.args.map a.eval).toList = z' :: zs' := by rw [Array.toList_map]; exact hzz
        simp only [Builtin.max_, this]
        exact e1
      · simp at hq
    · -- min
      obtain ⟨xs, h1, rfl⟩ := map_some hc
      have hx := opnds_sound hg hf h1
      rw [run_builtin ho hcal (s := Builtin.min_ c.argTypes o.type (c.args.map a.eval)) (fun _ => rfl)]
      simp only [qop] at hq
      split at hq
      · rename_i z zs hz
        obtain ⟨r, hr, h⟩ := map_some hq
        simp at h; obtain ⟨rfl, rfl⟩ := h
        rw [hz] at hx
        obtain ⟨z', zs', hzz, g1, g2⟩ := hx.of_cons
        obtain ⟨r', e1, e2⟩ := min_fold (P := P) (w := w) zs zs' z z' r g1 g2 hr
        refine .sem (v' := r') ?_ e2
        have : (c.args.map a.eval).toList = z' :: zs' := by rw [Array.toList_map]; exact hzz
        simp only [Builtin.min_, this]
        exact e1
      · simp at hq
    · simp at hc

/-- Every quiet operation. -/
theorem qop_sound {o : Oper} (hv : Inv A φ H w.heap) (hn : φ nid = none) (hg : GlobAt φ P.globals.size) (hf : FR φ nt fr a.tmps) (hc : compOp P pf o.op = some e) (hl : e.loud = false) (hp : ∀ f args, e ≠ .pcall f args)
    (hq : qop e fr H nid = some (v, ob)) : QGood φ w nid v ob ((execOp a.eval o).run P w) := by
  cases ho : o.op with
  | move x => rw [ho] at hc; simp only [execOp, ho]; exact q_mv hc hg hf hq
  | assign x => rw [ho] at hc; simp only [execOp, ho]; exact q_mv hc hg hf hq
  | pick c x y =>
    rw [ho] at hc; simp only [execOp, ho]
    simp only [compOp] at hc
    split at hc
    · rename_i c' x' y' h1 h2 h3
      injection hc with hc; subst hc
      have k1 := opnd_sound hg hf h1
      simp only [qop] at hq
      split at hq
      · rename_i t e1
        simp at hq; obtain ⟨rfl, rfl⟩ := hq
        rw [e1] at k1
        refine .same (v' := if t then a.eval x else a.eval y) ?_ ?_
        · rw [k1.of_bool]; rfl
        · cases t with
          | true => exact opnd_sound hg hf h2
          | false => exact opnd_sound hg hf h3
      · simp at hq
    · simp at hc
  | alloc t => rw [ho] at hc; simp only [execOp, ho]; exact q_alloc hc hn hq
  | box t x => rw [ho] at hc; simp only [execOp, ho]; exact q_box hc hn hg hf hq
  | build t ps => rw [ho] at hc; simp only [execOp, ho]; exact q_build hc hg hf hq
  | buildSlice t n ps => rw [ho] at hc; simp only [execOp, ho]; exact q_bslice hc hn hg hf hq
  | load t x => rw [ho] at hc; simp only [execOp, ho]; exact q_load hv hc hg hf hq
  | nilCheck x => rw [ho] at hc; exact q_nilchk ho hc hg hf hq
  | binOp op t x y yt => rw [ho] at hc; simp only [execOp, ho]; exact q_binop hc hg hf hq
  | unOp op t x => rw [ho] at hc; simp only [execOp, ho]; exact q_un (t := t) hc hg hf hq
  | convert s d x => rw [ho] at hc; simp only [execOp, ho]; exact q_convert hv hn hc hl hg hf hq
  | makeInterface t x =>
    rw [ho] at hc; simp only [execOp, ho]
    simp only [compOp] at hc
    split at hc
    · simp at hc
    · rename_i d x' hni hu h1
      injection hc with hc; subst hc
      simp [qop] at hq; obtain ⟨rfl, rfl⟩ := hq
      refine .sem (v' := .iface t (a.eval x)) ?_ (.iface t _ _ (opnd_sound hg hf h1))
      simp only [Instr.makeInterface, Sem.run_bind, run_under hu, Result.andThen_ok]
      cases d <;> first | rfl | exact absurd rfl (hni _)
    · simp at hc
  | makeFunc fn first cap =>
    rw [ho] at hc; simp only [execOp, ho]
    simp only [compOp] at hc
    split at hc
    · rename_i f
      split at hc
      · rename_i x' y' h1 h2
        injection hc with hc; subst hc
        simp [qop] at hq; obtain ⟨rfl, rfl⟩ := hq
        have k1 := opnds_sound hg hf h1
        have k2 := opnds_sound hg hf h2
        refine .sem (v' := .func (.func f) (first.map a.eval) (cap.map a.eval)) rfl (.fn f _ _ _ _ ?_ ?_ ?_ ?_)
        · simpa using k1.1
        · intro i v v' h h'; exact k1.2 i v v' h (by simpa using h')
        · simpa using k2.1
        · intro i v v' h h'; exact k2.2 i v v' h (by simpa using h')
      · simp at hc
    · simp at hc
  | makeSlice t l c => rw [ho] at hc; simp only [execOp, ho]; exact q_makeSlice hn hc hg hf hq
  | slice t x lo hi mx => rw [ho] at hc; simp only [execOp, ho]; exact q_slice hv hc hg hf hq
  | fieldAddr t x k => rw [ho] at hc; simp only [execOp, ho]; exact q_fieldAddr hc hg hf hq
  | field t x k => rw [ho] at hc; simp only [execOp, ho]; exact q_field hc hg hf hq
  | indexAddr t x i => rw [ho] at hc; simp only [execOp, ho]; exact q_indexAddr hc hg hf hq
  | index t x i => rw [ho] at hc; simp only [execOp, ho]; exact q_index hc hg hf hq
  | range t x => rw [ho] at hc; simp only [execOp, ho]; exact q_range hc hg hf hq
  | typeAssert x xt t ok => rw [ho] at hc; simp only [execOp, ho]; exact q_typeAssert hc hg hf hq
  | extract x i => rw [ho] at hc; simp only [execOp, ho]; exact q_extract hc hg hf hq
  | call c => rw [ho] at hc; exact q_call ho hc hl hp hg hf hq
  | store t x y =>
    rw [ho] at hc
    simp only [compOp] at hc
    split at hc
    · split at hc
      · injection hc with hc; subst hc; simp [EOp.loud] at hl
      · simp at hc
    · simp at hc
  | next it s =>
    rw [ho] at hc
    cases s with
    | true => obtain ⟨x', h1, rfl⟩ := map_some hc; simp [EOp.loud] at hl
    | false => simp [compOp] at hc
  | panic x => rw [ho] at hc; simp [compOp] at hc; subst hc; simp [qop] at hq
  | _ => rw [ho] at hc; simp [compOp] at hc

end
end Go.Ev
