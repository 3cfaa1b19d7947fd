/- Each quiet operation of the evaluator is what the model does: cuts, indexes, interfaces, lengths; and all of them in one theorem. -/
import Derived.Test.YtdalcnjdpfnjjaaGreatDoorEvI
set_option linter.unusedSimpArgs false
set_option linter.unusedVariables false
namespace Go.Ev
open Go

section
variable {P : Program} {w : World} {A : Around} {φ : Fi} {H : Heap} {nt : Nat} {fr : Fr} {a : Act} {nid : Nat} {pf : FuncId → Bool} {v : V} {ob : Option Obj} {e : EOp}

/-! ### Cuts -/

def OR (φ : Fi) : Option V → Option Value → Prop
  | none, none => True
  | some v, some v' => VR φ v v'
  | _, _ => False
theorem opnd?_sound (hg : GlobAt φ P.globals.size) (hf : FR φ nt fr a.tmps) {x : Option Operand} {x' : Option EO} (h : opnd? P.globals.size x = some x') : OR φ (x'.map (ev fr)) (x.map a.eval) := by
  cases x with
  | none => simp [opnd?] at h; subst h; trivial
  | some x =>
    simp only [opnd?] at h
    obtain ⟨e, h1, rfl⟩ := map_some h
    exact opnd_sound hg hf h1

theorem bound_some {x : V} {d m r : Nat} (h : bound (some x) d m = some r) : ∃ k n, x = .int k n ∧ 0 ≤ n ∧ n ≤ (m : Int) ∧ r = n.toNat := by
  cases x <;> simp [bound] at h
  rename_i k n
  exact ⟨k, n, rfl, h.1.1, h.1.2, h.2.symm⟩
theorem bound_none {d m r : Nat} (h : bound none d m = some r) : r = d ∧ d ≤ m := by
  simp [bound] at h; exact ⟨h.2.symm, h.1⟩
theorem bound_le {x : Option V} {d m r : Nat} (h : bound x d m = some r) : r ≤ m := by
  cases x with
  | none => obtain ⟨rfl, h⟩ := bound_none h; exact h
  | some x => obtain ⟨k, n, _, h1, h2, rfl⟩ := bound_some h; omega

theorem run_sliceBound {x : Value} {k : IntKind} {n : Int} {y : Nat} {code : BoundsCode} (hx : x = .int k n) (h0 : 0 ≤ n) (h1 : n ≤ (y : Int)) (w : World) : (Instr.sliceBound x y code).run P w = .ok n.toNat w := by
  subst hx
  simp [Instr.sliceBound, asIntOf, h0, h1]

/-- The three bounds of a cut, as the model reckons them: its capacity may be greater than what is known. -/
theorem run_bounds {isSl : Bool} {n c m h l : Nat} {lo hi mx : Option V} {lo' hi' mx' : Option Value} (hlo : OR φ lo lo') (hhi : OR φ hi hi') (hmx : OR φ mx mx') (hnc : n ≤ c)
    (hok : ¬ (hi = none ∧ mx ≠ none)) (h1 : bound mx n n = some m) (h2 : bound hi n m = some h) (h3 : bound lo 0 h = some l) (w : World) :
    (Instr.sliceBounds isSl n c lo' hi' mx').run P w = .ok (l, h, if mx.isSome then m else c) w := by
  have low : ∀ (b : BoundsCode) (X : Nat), (match lo' with
      | some v => (do let l ← Instr.sliceBound v h b; pure (l, h, X) : Sem (Nat × Nat × Nat))
      | none => (do let l ← pure 0; pure (l, h, X) : Sem (Nat × Nat × Nat))).run P w = .ok (l, h, X) w := by
    intro b X
    cases lo with
    | none =>
      cases lo' with
      | none => obtain ⟨rfl, _⟩ := bound_none h3; rfl
      | some x => exact absurd hlo (by simp [OR])
    | some x =>
      cases lo' with
      | none => exact absurd hlo (by simp [OR])
      | some x' =>
        obtain ⟨k, q, rfl, e1, e2, rfl⟩ := bound_some h3
        simp only [OR] at hlo
        simp only [Sem.run_bind, run_sliceBound hlo.of_int e1 e2 w, Result.andThen_ok, Sem.run_pure]
  cases mx with
  | none =>
    cases mx' with
    | some x => exact absurd hmx (by simp [OR])
    | none =>
      obtain ⟨rfl, _⟩ := bound_none h1
      cases hi with
      | none =>
        cases hi' with
        | some x => exact absurd hhi (by simp [OR])
        | none =>
          obtain ⟨rfl, _⟩ := bound_none h2
          simp only [Instr.sliceBounds, Sem.run_bind, Sem.run_pure, Result.andThen_ok, Option.isSome_none, Bool.false_eq_true, if_false]
          exact low .sliceB c
      | some x =>
        cases hi' with
        | none => exact absurd hhi (by simp [OR])
        | some x' =>
          obtain ⟨k, q, rfl, e1, e2, rfl⟩ := bound_some h2
          simp only [OR] at hhi
          have hb := run_sliceBound (P := P) (y := c) (code := if isSl then .sliceAcap else .sliceAlen) hhi.of_int e1 (by omega) w
          simp only [Instr.sliceBounds, Sem.run_bind, Sem.run_pure, Result.andThen_ok, Option.isSome_none, Bool.false_eq_true, if_false]
          rw [hb]
          simp only [Result.andThen_ok]
          exact low .sliceB c
  | some z =>
    cases mx' with
    | none => exact absurd hmx (by simp [OR])
    | some z' =>
      obtain ⟨k, q, rfl, e1, e2, rfl⟩ := bound_some h1
      simp only [OR] at hmx
      cases hi with
      | none => exact absurd ⟨rfl, by simp⟩ hok
      | some x =>
        cases hi' with
        | none => exact absurd hhi (by simp [OR])
        | some x' =>
          obtain ⟨k', q', rfl, f1, f2, rfl⟩ := bound_some h2
          simp only [OR] at hhi
          have ha := run_sliceBound (P := P) (y := c) (code := if isSl then .slice3Acap else .slice3Alen) hmx.of_int e1 (by omega) w
          have hb := run_sliceBound (P := P) (y := q.toNat) (code := .slice3B) hhi.of_int f1 f2 w
          simp only [Instr.sliceBounds, Sem.run_bind, Sem.run_pure, Result.andThen_ok, Option.isSome_some, if_true]
          rw [ha]
          simp only [Result.andThen_ok]
          rw [hb]
          simp only [Result.andThen_ok]
          exact low .slice3C _

theorem OR.none_iff {x : Option V} {x' : Option Value} (h : OR φ x x') : x.isSome = x'.isSome := by
  cases x <;> cases x' <;> first | rfl | (exact absurd h (by simp [OR]))

theorem q_slice {t : TypeId} {x : Operand} {lo hi mx : Option Operand} (hv : Inv A φ H w.heap) (hc : compOp P pf (.slice t x lo hi mx) = some e) (hg : GlobAt φ P.globals.size) (hf : FR φ nt fr a.tmps) (hq : qop e fr H nid = some (v, ob)) :
    QGood φ w nid v ob ((do pure (Next.value (← Instr.sliceAt t (a.eval x) (lo.map a.eval) (hi.map a.eval) (mx.map a.eval))) : Sem Next).run P w) := by
  simp only [compOp] at hc
  split at hc
  · rename_i x' lo' hi' h1 h2 h3 h4 h5
    injection hc with hc; subst hc
    have hx := opnd_sound hg hf h2
    have hlo := opnd?_sound hg hf h3
    have hhi := opnd?_sound hg hf h4
    have hmx := opnd?_sound hg hf h5
    simp only [qop] at hq
    split at hq
    · rename_i s e1
      split at hq
      · rename_i h' e2
        split at hq
        · rename_i l e3
          simp at hq; obtain ⟨rfl, rfl⟩ := hq
          rw [e1] at hx
          obtain ⟨bs, hb, rfl⟩ := hx.of_str
          rw [ofBytes_size] at e2
          have hm : mx.map a.eval = none := by
            cases hq : mx.map a.eval with
            | none => rfl
            | some y => rw [hq] at hmx; simp [OR] at hmx
          have hbd := run_bounds (P := P) (φ := φ) (isSl := false) (n := bs.size) (c := bs.size) (mx := none) (mx' := none) hlo hhi trivial (Nat.le_refl _) (by simp) (by simp [bound]) e2 e3 w
          refine .sem (v' := .string (bs.extract l h')) ?_ (.str _ _ (ofBytes_extract bs l h'))
          rw [hm, hb]
          simp only [Instr.sliceAt, Sem.run_bind, run_under h1, Result.andThen_ok, Instr.slice]
          simp [run_under h1, hbd]
        · simp at hq
      · simp at hq
    · simp at hq
  · rename_i el x' lo' hi' mx' h1 h2 h3 h4 h5
    split at hc
    · rename_i hcond
      simp at hcond
      injection hc with hc; subst hc
      have hx := opnd_sound hg hf h2
      have hlo := opnd?_sound hg hf h3
      have hhi := opnd?_sound hg hf h4
      have hmx := opnd?_sound hg hf h5
      have hok : ¬ (hi'.map (ev fr) = none ∧ mx'.map (ev fr) ≠ none) := by
        intro ⟨p, q⟩
        rcases hcond.2 with h | h
        · cases hi' with
          | none => simp at h
          | some y => simp at p
        · rw [h] at q; simp at q
      have start : (Instr.sliceAt t (a.eval x) (lo.map a.eval) (hi.map a.eval) (mx.map a.eval)).run P w = (Instr.slice t (a.eval x) (lo.map a.eval) (hi.map a.eval) (mx.map a.eval)).run P w := by
        simp [Instr.sliceAt, run_under h1]
      simp only [qop] at hq
      split at hq
      · rename_i e1
        split at hq
        · rename_i m h' l e2 e3 e4
          simp at hq; obtain ⟨rfl, rfl⟩ := hq
          rw [e1] at hx
          have hm0 := bound_le e2
          have hh0 := bound_le e3
          have hl0 := bound_le e4
          obtain rfl : m = 0 := by omega
          obtain rfl : h' = 0 := by omega
          obtain rfl : l = 0 := by omega
          have hbd := run_bounds (P := P) (φ := φ) (isSl := true) (n := 0) (c := 0) hlo hhi hmx (Nat.le_refl _) hok e2 e3 e4 w
          refine .sem (v' := .slice none 0 0) ?_ .nils
          rw [start, hx.of_nils]
          simp only [Instr.slice, Sem.run_bind, run_under h1, Result.andThen_ok, hbd, run_sizeOf_pos hcond.1, Sem.run_pure]
          simp
        · simp at hq
      · rename_i i o n es' full e1
        split at hq
        · rename_i hes
          subst hes
          split at hq
          · rename_i m e2
            split at hq
            · rename_i h' e3
              split at hq
              · rename_i l e4
                simp at hq; obtain ⟨rfl, rfl⟩ := hq
                rw [e1] at hx
                have hm0 := bound_le e2
                have hh0 := bound_le e3
                have hl0 := bound_le e4
                rcases hx.of_sl with ⟨b, d, sz, c, f1, f2, f3, f4, f5⟩ | ⟨rfl, ad, hsp, f5⟩
                · have hbd := run_bounds (P := P) (φ := φ) (isSl := true) (n := n) (c := c) hlo hhi hmx f2 hok e2 e3 e4 w
                  let M := if (mx'.map (ev fr)).isSome then m else c
                  have hM : h' ≤ M ∧ M ≤ c := by
                    simp only [M]; split <;> omega
                  refine .sem (v' := .slice (some (if M = l then ⟨b, d + o, none⟩ else ⟨b, d + o + l * P.cellsOf el, none⟩)) (h' - l) (M - l)) ?_ ?_
                  · rw [start, f5]
                    simp only [Instr.slice, Sem.run_bind, run_under h1, Result.andThen_ok, hbd, run_sizeOf_pos hcond.1, Sem.run_pure]
                    change Result.ok (Value.slice (if M = l then _ else _) _ _) w = _
                    congr 2
                    split
                    · rfl
                    · simp [addr_add]
                  · by_cases hMl : M = l
                    · have : h' - l = 0 := by omega
                      have h2 : M - l = 0 := by omega
                      rw [if_pos hMl, this, h2]
                      exact .sl0 _ _ _ _ _ rfl
                    · rw [if_neg hMl]
                      rw [Nat.add_assoc]
                      refine VR.sl (φ := φ) i (o + l * P.cellsOf el) (h' - l) (P.cellsOf el) _ b d sz (M - l) f1 (by omega) ?_ ?_
                      · intro hfull
                        cases mx' with
                        | some z => simp at hfull; simp [M]; omega
                        | none =>
                          simp at hfull
                          have hcn := f3 hfull.1
                          simp [M]; omega
                      · have e5 : (M - l) * P.cellsOf el + l * P.cellsOf el = M * P.cellsOf el := by rw [← Nat.add_mul]; congr 1; omega
                        have e6 : M * P.cellsOf el ≤ c * P.cellsOf el := Nat.mul_le_mul_right _ hM.2
                        omega
                · obtain rfl : m = 0 := by omega
                  obtain rfl : h' = 0 := by omega
                  obtain rfl : l = 0 := by omega
                  have hbd := run_bounds (P := P) (φ := φ) (isSl := true) (n := 0) (c := 0) hlo hhi hmx (Nat.le_refl _) hok e2 e3 e4 w
                  refine .sem (v' := .slice (some ad) 0 0) ?_ (.sl0 _ _ _ _ _ hsp)
                  rw [start, f5]
                  simp only [Instr.slice, Sem.run_bind, run_under h1, Result.andThen_ok, hbd, run_sizeOf_pos hcond.1, Sem.run_pure]
                  simp
              · simp at hq
            · simp at hq
          · simp at hq
        · simp at hq
      · simp at hq
    · simp at hc
  · rename_i N el x' lo' hi' mx' h1 h2 h3 h4 h5
    split at hc
    · rename_i hcond
      simp at hcond
      injection hc with hc; subst hc
      have hx := opnd_sound hg hf h2
      have hlo := opnd?_sound hg hf h3
      have hhi := opnd?_sound hg hf h4
      have hmx := opnd?_sound hg hf h5
      have hok : ¬ (hi'.map (ev fr) = none ∧ mx'.map (ev fr) ≠ none) := by
        intro ⟨p, q⟩
        rcases hcond.2 with h | h
        · cases hi' with
          | none => simp at h
          | some y => simp at p
        · rw [h] at q; simp at q
      simp only [qop] at hq
      split at hq
      · rename_i i o e1
        split at hq
        · rename_i ro cs e0
          split at hq
          · rename_i hsz
            split at hq
            · rename_i m e2
              split at hq
              · rename_i h' e3
                split at hq
                · rename_i l e4
                  simp at hq; obtain ⟨rfl, rfl⟩ := hq
                  rw [e1] at hx
                  have hm0 := bound_le e2
                  have hh0 := bound_le e3
                  have hl0 := bound_le e4
                  obtain ⟨b, d, sz, f1, f5⟩ := hx.of_ptr
                  obtain ⟨arr, ty, lo1, hi1, g1, g2, g3, _, _⟩ := hv.cells e0 f1
                  have hbd := run_bounds (P := P) (φ := φ) (isSl := false) (n := N) (c := N) hlo hhi hmx (Nat.le_refl _) hok e2 e3 e4 w
                  have hMm : (if (mx'.map (ev fr)).isSome then m else N) = m := by
                    cases hmx' : mx'.map (ev fr) with
                    | some z => rfl
                    | none => rw [hmx'] at e2; obtain ⟨rfl, _⟩ := bound_none e2; rfl
                  rw [hMm] at hbd
                  refine .sem (v' := .slice (some (if m = l then ⟨b, d + o, none⟩ else ⟨b, d + o + l * P.cellsOf el, none⟩)) (h' - l) (m - l)) ?_ ?_
                  · rw [f5]
                    simp only [Instr.sliceAt, Sem.run_bind, run_under h1, Result.andThen_ok, Instr.sureAddr, hbd, run_sizeOf_pos hcond.1, Sem.run_pure]
                    congr 3
                    split
                    · rfl
                    · simp [addr_add]
                  · by_cases hMl : m = l
                    · have : h' - l = 0 := by omega
                      have h2 : m - l = 0 := by omega
                      rw [if_pos hMl, this, h2]
                      exact .sl0 _ _ _ _ _ rfl
                    · rw [if_neg hMl]
                      have := VR.sl (φ := φ) i (o + l * P.cellsOf el) (h' - l) (P.cellsOf el) (m == h') b d sz (m - l) f1 (by omega) (by intro h; simp at h; omega) ?_
                      · simp only [Nat.add_assoc] at this ⊢; exact this
                      · have e5 : (m - l) * P.cellsOf el + l * P.cellsOf el = m * P.cellsOf el := by rw [← Nat.add_mul]; congr 1; omega
                        have e6 : m * P.cellsOf el ≤ N * P.cellsOf el := Nat.mul_le_mul_right _ hm0
                        omega
                · simp at hq
              · simp at hq
            · simp at hq
          · simp at hq
        · simp at hq
      · simp at hq
    · simp at hc
  · simp at hc

end
end Go.Ev
