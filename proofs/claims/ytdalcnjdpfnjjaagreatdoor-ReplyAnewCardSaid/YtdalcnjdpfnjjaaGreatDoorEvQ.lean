/- Code: regions in the order of the text. -/
import Derived.Test.YtdalcnjdpfnjjaaGreatDoorEvP
set_option linter.unusedSimpArgs false
set_option linter.unusedVariables false
namespace Go.Ev
open Go

section
variable {P : Program} {w : World} {A : Around} {φ : Fi} {H H' : Heap} {nt : Nat} {fr fr' : Fr} {a : Act} {pf : FuncId → Bool} {E : Env} {v : V} {ob : Option Obj}
  {cf : FuncId → List V → Heap → Option (V × Heap)} {pu : FuncId → List V → Option V} {Q : Exit → Act → World → Prop}

theorem put_defers' (a : Act) (d : Option Tmp) (v : Value) : (a.put d v).defers = a.defers := by cases d <;> rfl

/-- What is asked at the end of a region. -/
def Done (A : Around) (w : World) (φ : Fi) (H : Heap) (nt : Nat) (fr' : Fr) (H' : Heap) (Q : Exit → Act → World → Prop) : Prop :=
  ∀ (φ' : Fi) (a' : Act) (w' : World), Grow φ H φ' H' → Inv A φ' H' w'.heap → Still w w' → FR φ' nt fr' a'.tmps → a'.defers = [] → Q .normal a' w'

theorem ops_wp (t : Tie P pf E) (cg : CallsGood P E cf) (pg : PuresGood P E pu) (hA : A.G = E.glob) {ops : Array Oper} : ∀ (rest : List Oper) (l : List EOper) (fr : Fr) (H : Heap) (φ : Fi) (a : Act) (w : World),
    compPlain P pf ops rest = some l → fitsL nt l = true → runOps cf pu l fr H = some (fr', H') → Inv A φ H w.heap → FR φ nt fr a.tmps → a.defers = [] → Done A w φ H nt fr' H' Q →
    wpList P ops Q rest a w
  | [], l, fr, H, φ, a, w, hc, hfit, hr, hv, hf, hd, K => by
    simp [compPlain] at hc; subst hc
    simp [runOps] at hr
    obtain ⟨rfl, rfl⟩ := hr
    exact K φ a w (Grow.refl _ _) hv (Still.refl w) hf hd
  | o :: rest, l, fr, H, φ, a, w, hc, hfit, hr, hv, hf, hd, K => by
    simp only [compPlain] at hc
    split at hc
    · rename_i e g es h1 h2 h3
      injection hc with hc; subst hc
      simp only [fitsL, Bool.and_eq_true] at hfit
      obtain ⟨hfit1, hfit2⟩ := hfit
      have hdst : ∀ d, o.dst = some d → d < nt := by
        intro d hd'
        rw [hd'] at hfit1
        simpa using hfit1
      have hwant : Region.wanted o (yielded ops a.tmps) = wantedA { dst := o.dst, guard := g, op := e } fr := wanted_iff hf h2
      simp only [runOps] at hr
      simp only [wpList]
      rw [hwant]
      split at hr
      · rename_i hw
        rw [if_pos hw]
        left
        split at hr
        · rename_i hl
          split at hr
          · rename_i v H1 hlop
            refine loud_wp t cg hA hv hf hd h1 hl hlop fun φ' v' w' g1 g2 gst g3 => ?_
            refine ops_wp t cg pg hA rest es _ H1 φ' _ w' h3 hfit2 hr g2 ?_ (by rw [put_defers']; exact hd) (fun φ'' a' w'' k1 k2 k3 => K φ'' a' w'' (g1.trans k1) k2 (gst.trans k3))
            exact (hf.mono (g1.le hv)).putA hdst g3
          · simp at hr
        · rename_i hl
          have hl' : e.loud = false := by simpa using hl
          have hn : φ H.next = none := hv.dead_at_next (Nat.le_refl _)
          split at hr
          · rename_i v hqop
            refine quiet_wp t pg hA hv hn hf h1 hl' hqop fun v' w' ⟨gst, g1, g2, g3⟩ => ?_
            refine ops_wp t cg pg hA rest es _ H φ _ w' h3 hfit2 hr (hv.grow g1 g2) ?_ (by rw [put_defers']; exact hd) (fun φ'' a' w'' k1 k2 k3 => K φ'' a' w'' k1 k2 (gst.trans k3))
            exact hf.putA hdst g3
          · rename_i v b hqop
            refine quiet_wp t pg hA hv hn hf h1 hl' hqop fun v' w' ⟨gst, o', sz, g1, g2, g3⟩ => ?_
            have hinv := hv.alloc g3
            rw [← g1] at hinv
            have hgr : Grow φ H (φ.put H.next w.heap.size 0 sz) (H.alloc b) := Grow.put _ _ _ _ _ _ (by simp [Heap.alloc])
            refine ops_wp t cg pg hA rest es _ (H.alloc b) _ _ w' h3 hfit2 hr hinv ?_ (by rw [put_defers']; exact hd) (fun φ'' a' w'' k1 k2 k3 => K φ'' a' w'' (hgr.trans k1) k2 (gst.trans k3))
            exact (hf.mono (hgr.le hv)).putA hdst g2
          · simp at hr
      · rename_i hw
        rw [if_neg hw]
        refine ops_wp t cg pg hA rest es _ H φ _ w h3 hfit2 hr hv ?_ (by rw [put_defers']; exact hd) K
        exact hf.putA hdst VR.undef
    · simp at hc

/-! ### Results, frames -/

theorem FR.start : ∀ (args : List V) (args' : List Value) (i : Nat) (fr : Fr) (pre : List Value) (n : Nat), VRs φ args args' → pre.length = i → (∀ t, VR φ ((fr.get t).getD V.undef) (pre.getD t Go.undef)) →
    ∀ t, VR φ (((mkFr args i fr).get t).getD V.undef) ((pre ++ args' ++ List.replicate n Go.undef).getD t Go.undef)
  | [], args', i, fr, pre, n, h, hl, hp, t => by
    rw [h.of_nil]
    simp only [mkFr, List.append_nil]
    have := hp t
    rw [List.getD_eq_getElem?_getD] at this ⊢
    by_cases ht : t < pre.length
    · rw [List.getElem?_append_left ht]; exact this
    · rw [List.getElem?_append_right (by omega)]
      rw [List.getElem?_eq_none (by omega)] at this
      rw [List.getElem?_replicate]
      split <;> exact this
  | v :: args, args', i, fr, pre, n, h, hl, hp, t => by
    obtain ⟨v', r', rfl, h1, h2⟩ := h.of_cons
    have := FR.start args r' (i + 1) (fr.set v i) (pre ++ [v']) n h2 (by simp [hl]) (fun t => by
      rw [T.get_set, List.getD_eq_getElem?_getD]
      by_cases e : i = t
      · subst e
        rw [if_pos rfl, List.getElem?_append_right (by omega)]
        simp [hl, h1]
      · rw [if_neg e]
        have := hp t
        rw [List.getD_eq_getElem?_getD] at this
        by_cases ht : t < pre.length
        · rw [List.getElem?_append_left ht]; exact this
        · rw [List.getElem?_append_right (by omega), List.getElem?_eq_none (by simp; omega)]
          rw [List.getElem?_eq_none (by omega)] at this
          exact this) t
    simp only [mkFr]
    simpa using this

theorem FR.enter {args : List V} {args' : Array Value} (h : VRs φ args args'.toList) (n : Nat) : FR φ n (mkFr args 0 .nil) (args' ++ Array.replicate (n - args'.size) Go.undef) := by
  refine ⟨by simp; omega, fun t => ?_⟩
  have := FR.start args args'.toList 0 .nil [] (n - args'.size) h rfl (fun t => by simp [T.get_nil]; exact VR.undef) t
  rw [Array.getD_eq_getD_getElem?, ← Array.getElem?_toList, ← List.getD_eq_getElem?_getD]
  simpa using this

/-- One result, as the model takes it. -/
def resSem (tmps : Array Value) (r : ResultVar) : Sem Value :=
  match r with
  | .tmp t => pure (tmps.getD t Go.undef)
  | .cell b t => do loadVar t (← asAddr (tmps.getD b Go.undef))
theorem results_eq (fn : Func) (tmps : Array Value) : results fn tmps = (do
    let vs ← fn.results.mapM (resSem tmps)
    pure (if h : vs.size = 1 then vs[0] else .tuple vs)) := rfl

theorem res_run (hv : Inv A φ H w.heap) (hf : FR φ nt fr a.tmps) : ∀ (rs : List ResultVar) (es : List ERes) (vs : List V), compRes P rs = some es → resList fr H es = some vs →
    ∃ vs' : List Value, (rs.mapM (resSem a.tmps)).run P w = .ok vs' w ∧ VRs φ vs vs'
  | [], es, vs, hc, hr => by
    simp [compRes] at hc; subst hc
    simp [resList] at hr; subst hr
    exact ⟨[], rfl, .nil _⟩
  | .tmp t :: rs, es, vs, hc, hr => by
    simp only [compRes] at hc
    obtain ⟨es', h1, rfl⟩ := map_some hc
    simp only [resList, resOf] at hr
    split at hr
    · rename_i v' vs0 h2 h3
      injection hr with hr; subst hr
      injection h2 with h2; subst h2
      obtain ⟨vs', k1, k2⟩ := res_run hv hf rs es' vs0 h1 h3
      refine ⟨a.tmps.getD t Go.undef :: vs', ?_, .cons (hf.val t) k2⟩
      have hr1 : (resSem a.tmps (.tmp t)).run P w = .ok (a.tmps.getD t Go.undef) w := rfl
      simp only [List.mapM_cons, Sem.run_bind, Sem.run_pure, Result.andThen_ok, hr1, k1]
    · simp at hr
  | .cell b t :: rs, es, vs, hc, hr => by
    simp only [compRes] at hc
    split at hc
    · rename_i es' hagg h1
      split at hc
      · rename_i hpos
        injection hc with hc; subst hc
        simp only [resList, resOf] at hr
        split at hr
        · rename_i v' vs0 h2 h3
          injection hr with hr; subst hr
          obtain ⟨vs', k1, k2⟩ := res_run hv hf rs es' vs0 h1 h3
          have hb := hf.val b
          split at h2
          · rename_i i o hio
            split at h2
            · rename_i ro cs hg
              split at h2
              · rename_i hle
                injection h2 with h2; subst h2
                rw [hio] at hb
                obtain ⟨bb, d, sz, hφ, hse⟩ := hb.of_ptr
                obtain ⟨arr, f1, f2, f3⟩ := hv.readRow (P := P) hg hφ hle
                refine ⟨.agg arr :: vs', ?_, .cons (.agg' f3) k2⟩
                have hr1 : (resSem a.tmps (.cell b t)).run P w = .ok (.agg arr) w := by
                  simp only [resSem, Sem.run_bind, hse, asAddr, Sem.run_pure, Result.andThen_ok, loadVar, run_isAgg hagg, if_true, run_sizeOf_pos hpos, f1 w rfl]
                simp only [List.mapM_cons, Sem.run_bind, Sem.run_pure, Result.andThen_ok, hr1, k1]
              · simp at h2
            · simp at h2
          · simp at h2
        · simp at hr
      · simp at hc
    · rename_i es' hagg h1
      injection hc with hc; subst hc
      simp only [resList, resOf] at hr
      split at hr
      · rename_i v' vs0 h2 h3
        injection hr with hr; subst hr
        obtain ⟨vs', k1, k2⟩ := res_run hv hf rs es' vs0 h1 h3
        have hb := hf.val b
        split at h2
        · rename_i i o hio
          split at h2
          · rename_i ro cs hg
            rw [hio] at hb
            obtain ⟨bb, d, sz, hφ, hse⟩ := hb.of_ptr
            obtain ⟨x', f1, f2⟩ := hv.read1 hg hφ h2
            refine ⟨x' :: vs', ?_, .cons f2 k2⟩
            have hr1 : (resSem a.tmps (.cell b t)).run P w = .ok x' w := by
              simp only [resSem, Sem.run_bind, hse, asAddr, Sem.run_pure, Result.andThen_ok, loadVar, run_isAgg hagg, Bool.false_eq_true, if_false, run_load, f1]
            simp only [List.mapM_cons, Sem.run_bind, Sem.run_pure, Result.andThen_ok, hr1, k1]
          · simp at h2
        · simp at h2
      · simp at hr
    · simp at hc

theorem results_run {fn : Func} {es : List ERes} {vs : List V} (hv : Inv A φ H w.heap) (hf : FR φ nt fr a.tmps) (hc : compRes P fn.results.toList = some es) (hr : resList fr H es = some vs) :
    ∃ v', (results fn a.tmps).run P w = .ok v' w ∧ VR φ (tupOf vs) v' := by
  obtain ⟨vs', k1, k2⟩ := res_run (a := a) hv hf fn.results.toList es vs hc hr
  have hm : (fn.results.mapM (resSem a.tmps)).run P w = .ok vs'.toArray w := by
    rw [Array.mapM_eq_mapM_toList]
    simp only [Sem.run_map, k1, Result.andThen_ok]
  refine ⟨if h : vs'.toArray.size = 1 then vs'.toArray[0] else .tuple vs'.toArray, ?_, ?_⟩
  · rw [results_eq]
    simp only [Sem.run_bind, hm, Result.andThen_ok, Sem.run_pure]
  · have hl := k2.1
    cases vs with
    | nil => rw [k2.of_nil]; exact .tup' (.nil _)
    | cons x vs =>
      obtain ⟨x', r', rfl, m1, m2⟩ := k2.of_cons
      cases vs with
      | nil =>
        rw [m2.of_nil]
        simpa [tupOf] using m1
      | cons y vs =>
        obtain ⟨y', r'', rfl, m3, m4⟩ := m2.of_cons
        simp only [tupOf]
        simp
        exact .tup' (.cons m1 (.cons m3 m4))

end
end Go.Ev
