/- Each quiet operation of the evaluator is what the model does: the other cases. -/
import Derived.Test.YtdalcnjdpfnjjaaGreatDoorEvE
set_option linter.unusedSimpArgs false
set_option linter.unusedVariables false
namespace Go.Ev
open Go

section
variable {P : Program} {w : World} {A : Around} {φ : Fi} {H : Heap} {nt : Nat} {fr : Fr} {a : Act} {nid : Nat} {pf : FuncId → Bool} {v : V} {ob : Option Obj} {e : EOp}

theorem VR.new0 (φ : Fi) (nid b sz : Nat) : VR (φ.put nid b 0 sz) (.ptr nid 0) (.pointer (some ⟨b, 0, none⟩)) := by
  have := VR.ptr (φ := φ.put nid b 0 sz) nid 0 b 0 sz (Fi.put_same _ _ _ _ _)
  simpa using this
theorem VR.newSl (φ : Fi) (nid b sz n c es : Nat) (full : Bool) (h1 : n ≤ c) (h2 : full = true → c = n) (h3 : c * es ≤ sz) :
    VR (φ.put nid b 0 sz) (.sl nid 0 n es full) (.slice (some ⟨b, 0, none⟩) n c) := by
  have := VR.sl (φ := φ.put nid b 0 sz) nid 0 n es full b 0 sz c (Fi.put_same _ _ _ _ _) h1 h2 (by omega)
  simpa using this

theorem q_mv {x : Operand} {e : EOp} (hc : (opnd P.globals.size x).map .mv = some e) (hg : GlobAt φ P.globals.size) (hf : FR φ nt fr a.tmps) (hq : qop e fr H nid = some (v, ob)) :
    QGood φ w nid v ob ((pure (Next.value (a.eval x)) : Sem Next).run P w) := by
  obtain ⟨x', h1, rfl⟩ := map_some hc
  simp [qop] at hq
  obtain ⟨rfl, rfl⟩ := hq
  exact .same rfl (opnd_sound hg hf h1)

theorem q_alloc {t : TypeId} (hc : compOp P pf (.alloc t) = some e) (hn : φ nid = none) (hq : qop e fr H nid = some (v, ob)) :
    QGood φ w nid v ob ((do pure (Next.value (← Instr.alloc t true (.tuple #[]))) : Sem Next).run P w) := by
  obtain ⟨z, h1, rfl⟩ := map_some hc
  simp [qop] at hq
  obtain ⟨rfl, rfl⟩ := hq
  obtain ⟨zv, e1, e2, e3, e4, e5, e6⟩ := run_zero h1 w
  refine .semNew (v' := .pointer (some ⟨w.heap.size, 0, none⟩)) (w' := { w with heap := w.heap.push (.cells zv.cells t) }) (sz := zv.cells.size) ?_ rfl (VR.new0 _ _ _ _) (Bears.new' (e2 _))
  simp [Instr.alloc, e1, newVar, run_newRow]

theorem q_box {t : TypeId} {x : Operand} (hc : compOp P pf (.box t x) = some e) (hn : φ nid = none) (hg : GlobAt φ P.globals.size) (hf : FR φ nt fr a.tmps) (hq : qop e fr H nid = some (v, ob)) :
    QGood φ w nid v ob ((do pure (Next.value (← Instr.box t (a.eval x))) : Sem Next).run P w) := by
  simp only [compOp] at hc
  split at hc
  · rename_i x' i h1 h2
    split at hc
    · injection hc with hc; subst hc
      simp [qop] at hq
      obtain ⟨rfl, rfl⟩ := hq
      have hx := (opnd_sound hg hf h1).cells
      refine .semNew (v' := .pointer (some ⟨w.heap.size, 0, none⟩)) (w' := { w with heap := w.heap.push (.cells (a.eval x).cells t) }) (sz := (a.eval x).cells.size) ?_ rfl (VR.new0 _ _ _ _) (Bears.new' (hx.mono (Fi.le_put _ _ _ _ _ hn)))
      simp [Instr.box, newVar, run_newRow]
    · simp at hc
  · simp at hc

theorem rep_get (l : List V) (hl : 0 < l.length) : ∀ (n k : Nat), (rep n l)[k]? = if k < n * l.length then l[k % l.length]? else none
  | 0, k => by simp [rep]
  | n + 1, k => by
    simp only [rep]
    by_cases h : k < l.length
    · rw [List.getElem?_append_left h]
      have : k < (n + 1) * l.length := by
        have := Nat.le_mul_of_pos_left l.length (show 0 < n + 1 by omega); omega
      rw [if_pos this, Nat.mod_eq_of_lt h]
    · rw [List.getElem?_append_right (by omega), rep_get l hl n]
      have e : (n + 1) * l.length = n * l.length + l.length := by rw [Nat.add_mul, Nat.one_mul]
      by_cases h2 : k - l.length < n * l.length
      · rw [if_pos h2, if_pos (by omega)]
        have : k % l.length = (k - l.length) % l.length := by rw [Nat.mod_eq_sub_mod (by omega)]
        rw [this]
      · rw [if_neg h2, if_neg (by omega)]
theorem rep_length (l : List V) : ∀ n : Nat, (rep n l).length = n * l.length
  | 0 => by simp [rep]
  | n + 1 => by simp only [rep, List.length_append, rep_length l n]; rw [Nat.add_mul, Nat.one_mul]; omega

theorem rep_zero {ψ : Fi} {z : List V} {zc : Array Value} (h : VRs ψ z zc.toList) (hz : 0 < zc.size) (n m : Nat) (hm : m = n * zc.size) :
    VRs ψ (rep n z) ((Array.range m).map (zc[· % zc.size]!)).toList := by
  have hl := h.1
  simp at hl
  refine ⟨by rw [rep_length]; simp [hm, hl], fun k x x' hx hx' => ?_⟩
  rw [rep_get z (by omega)] at hx
  split at hx
  · rename_i hk
    rw [hl] at hx hk
    have hkm : k < m := by omega
    simp [hkm] at hx'
    have hlt : k % zc.size < zc.size := Nat.mod_lt _ hz
    have : zc[k % zc.size]! = zc[k % zc.size] := getElem!_pos zc _ hlt
    rw [this] at hx'
    exact h.2 (k % zc.size) x x' hx (by rw [Array.getElem?_toList, Array.getElem?_eq_getElem hlt, ← hx'])
  · simp at hx

theorem q_bslice {t : TypeId} {n : Nat} {parts : Array (Nat × Operand)} (hc : compOp P pf (.buildSlice t n parts) = some e) (hn : φ nid = none) (hg : GlobAt φ P.globals.size) (hf : FR φ nt fr a.tmps) (hq : qop e fr H nid = some (v, ob)) :
    QGood φ w nid v ob ((do pure (Next.value (← Instr.buildSlice t n (parts.map fun (i, x) => (i, a.eval x)))) : Sem Next).run P w) := by
  simp only [compOp] at hc
  split at hc
  · rename_i el hu
    split at hc
    · rename_i z hz
      split at hc
      · rename_i hbig
        obtain ⟨qs, h1, rfl⟩ := map_some hc
        have hle := Fi.le_put φ nid w.heap.size 0 (n * P.cellsOf el) hn
        obtain ⟨l1, l2⟩ := partsA_sound hg hf h1
        simp only [qop] at hq
        split at hq
        · rename_i cs hcs
          simp at hq
          obtain ⟨rfl, rfl⟩ := hq
          obtain ⟨zv, e1, e2, e3, e4, e5, e6⟩ := run_zero hz w
          have hrep : VRs φ (rep n z) ((Array.range (n * P.cellsOf el)).map (zv.cells[· % zv.cells.size]!)).toList := rep_zero (e2 φ) (by omega) n _ (by rw [e3])
          obtain ⟨arr', f1, f2⟩ := fill_sound (ψ := φ) (place := fun i => some (i * P.cellsOf el, P.cellsOf el)) (qs.map fun p => (p.1, p.2.1, ev fr p.2.2)) (parts.map fun (i, x) => (i, a.eval x)).toList _ _ cs hrep
            (by simp [l1]) (fun i o s x j x' hi hi' => by
              simp only [List.getElem?_map, Array.toList_map] at hi hi'
              obtain ⟨q, hq1, hq2⟩ := map_some hi
              obtain ⟨p, hp1, hp2⟩ := map_some hi'
              obtain ⟨qo, qs', qx⟩ := q
              obtain ⟨pj, px⟩ := p
              simp at hq2 hp2
              obtain ⟨rfl, rfl, rfl⟩ := hq2
              obtain ⟨rfl, rfl⟩ := hp2
              exact l2 i _ _ _ _ _ hq1 hp1) hcs
          have hsz : arr'.size = n * P.cellsOf el := by
            have h1 := f2.1
            have h2 : cs.length = (rep n z).length := by
              clear f1 f2 h1 hrep l1 l2
              revert hcs
              generalize (qs.map fun p => (p.1, p.2.1, ev fr p.2.2)) = ps
              generalize rep n z = r
              intro hcs
              induction ps generalizing r with
              | nil => simp [fillA] at hcs; rw [hcs]
              | cons p ps ih =>
                obtain ⟨o, s, x⟩ := p
                simp only [fillA] at hcs
                split at hcs
                · rename_i hh; rw [ih _ hcs]; simp; omega
                · simp at hcs
            rw [rep_length] at h2
            simp at h1
            rw [← h1, h2, e4]
          refine .semNew (v' := .slice (some ⟨w.heap.size, 0, none⟩) n n) (w' := { w with heap := w.heap.push (.cells arr' el) }) (sz := arr'.size) ?_ rfl (VR.newSl _ _ _ _ _ _ _ _ (Nat.le_refl _) (fun _ => rfl) (by omega)) (Bears.new' (f2.mono (by rw [hsz]; exact hle)))
          have hnb : ¬ (n * P.cellsOf el > 2 ^ 24) := by omega
          simp only [Instr.buildSlice, Sem.run_bind, run_under hu, Result.andThen_ok, run_sizeOf_pos e5, Sem.run_ite, if_neg hnb, Sem.run_pure]
          by_cases h0 : n * P.cellsOf el = 0
          · have hn0 : n = 0 := by
              rcases Nat.mul_eq_zero.1 h0 with h | h
              · exact h
              · omega
            subst hn0
            have hr : ∀ f : Nat → Value, Array.map f (Array.range (0 * P.cellsOf el)) = #[] := by intro f; apply Array.ext'; simp
            simp only [hr] at f1
            simp only [if_pos h0, Sem.run_bind, Sem.run_pure, Result.andThen_ok, hr, f1, run_newRow]
          · simp only [if_neg h0, Sem.run_bind, e1, Result.andThen_ok, Sem.run_pure, f1, run_newRow]
        · simp at hq
      · simp at hc
    · simp at hc
  · simp at hc

theorem q_load {t : TypeId} {x : Operand} (hv : Inv A φ H w.heap) (hc : compOp P pf (.load t x) = some e) (hg : GlobAt φ P.globals.size) (hf : FR φ nt fr a.tmps) (hq : qop e fr H nid = some (v, ob)) :
    QGood φ w nid v ob ((do pure (Next.value (← Instr.loadAt t (a.eval x))) : Sem Next).run P w) := by
  simp only [compOp] at hc
  split at hc
  · rename_i x' h1 h2
    split at hc
    · rename_i hpos
      injection hc with hc; subst hc
      have hx := opnd_sound hg hf h2
      simp only [qop] at hq
      split at hq
      · rename_i i o hev
        split at hq
        · rename_i ro cs hget
          split at hq
          · rename_i hle
            simp at hq
            obtain ⟨rfl, rfl⟩ := hq
            rw [hev] at hx
            obtain ⟨b, d, sz, hφ, hx'⟩ := hx.of_ptr
            obtain ⟨arr, f1, f2, f3⟩ := hv.readRow (P := P) hget hφ hle
            have f1 := f1 w rfl
            refine .sem (v' := .agg arr) ?_ (.agg' f3)
            simp [Instr.loadAt, hx', Instr.sureAddr, loadVar, run_isAgg h1, run_sizeOf_pos hpos, f1]
          · simp at hq
        · simp at hq
      · simp at hq
    · simp at hc
  · rename_i x' h1 h2
    injection hc with hc; subst hc
    have hx := opnd_sound hg hf h2
    simp only [qop] at hq
    split at hq
    · rename_i i o hev
      split at hq
      · rename_i ro cs hget
        split at hq
        · rename_i y hy
          simp at hq
          obtain ⟨rfl, rfl⟩ := hq
          rw [hev] at hx
          obtain ⟨b, d, sz, hφ, hx'⟩ := hx.of_ptr
          obtain ⟨y', f1, f2⟩ := hv.read1 hget hφ hy
          refine .sem (v' := y') ?_ f2
          simp [Instr.loadAt, hx', Instr.sureAddr, loadVar, run_isAgg h1, f1]
        · simp at hq
      · simp at hq
    · simp at hq
  · simp at hc

theorem VR.of_fn {f : FuncId} {c d : List V} {v' : Value} (r : VR φ (.fn f c d) v') : ∃ c' d' : Array Value, v' = .func (.func f) c' d' ∧ VRs φ c c'.toList ∧ VRs φ d d'.toList := by
  cases r with | fn _ _ _ c' d' h1 h2 h3 h4 => exact ⟨c', d', rfl, ⟨h1, h2⟩, ⟨h3, h4⟩⟩

theorem q_nilchk {x : Operand} {o : Oper} (ho : o.op = .nilCheck x) (hc : (opnd P.globals.size x).map .nilchk = some e) (hg : GlobAt φ P.globals.size) (hf : FR φ nt fr a.tmps) (hq : qop e fr H nid = some (v, ob)) :
    QGood φ w nid v ob ((execOp a.eval o).run P w) := by
  obtain ⟨x', h1, rfl⟩ := map_some hc
  have hx := opnd_sound hg hf h1
  simp only [qop] at hq
  split at hq
  · rename_i i o' hev
    simp at hq
    obtain ⟨rfl, rfl⟩ := hq
    rw [hev] at hx
    obtain ⟨b, d, sz, hφ, hx'⟩ := hx.of_ptr
    refine .same (v' := a.eval x) ?_ hx
    simp [execOp, ho, hx']
  · rename_i f c d hev
    simp at hq
    obtain ⟨rfl, rfl⟩ := hq
    rw [hev] at hx
    obtain ⟨c', d', hx', _⟩ := hx.of_fn
    refine .same (v' := a.eval x) ?_ hx
    simp [execOp, ho, hx']
  · simp at hq

end
end Go.Ev
