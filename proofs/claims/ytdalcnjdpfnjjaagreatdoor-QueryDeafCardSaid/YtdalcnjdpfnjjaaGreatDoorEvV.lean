/- All code: what the evaluator's run comes to, the model's run comes to. -/
import Derived.Test.YtdalcnjdpfnjjaaGreatDoorEvU
set_option linter.unusedSimpArgs false
set_option linter.unusedVariables false
namespace Go.Ev
open Go

section
variable {P : Program} {pf : FuncId → Bool} {E : Env}

/-- Code for which the evaluator's run stands. -/
def RunGood (P : Program) (pf : FuncId → Bool) (E : Env) (rec : Run) : Prop :=
  ∀ (c : Code) (ec : EC) (fr : Fr) (H : Heap) (ex : Ex) (fr' : Fr) (H' : Heap) (nt : Nat) (A : Around) (φ : Fi) (a : Act) (w : World), comp P pf c = some ec → fits nt ec = true → rec ec fr H = some (ex, fr', H') →
    A.G = E.glob → Inv A φ H w.heap → FR φ nt fr a.tmps → a.defers = [] → c.wp P (CodeGood A w φ H nt ex fr' H') a w

/-- The same of loops, counted in rounds. -/
def LoopGood (P : Program) (pf : FuncId → Bool) (E : Env) (rec : Run) (r : Nat) : Prop :=
  ∀ (c : Code) (ec : EC) (fr : Fr) (H : Heap) (ex : Ex) (fr' : Fr) (H' : Heap) (nt : Nat) (A : Around) (φ : Fi) (a : Act) (w : World), comp P pf c = some ec → fits nt ec = true → rec (.loop ec) fr H = some (ex, fr', H') →
    A.G = E.glob → Inv A φ H w.heap → FR φ nt fr a.tmps → a.defers = [] → Code.rounds P c (CodeGood A w φ H nt ex fr' H') r a w

theorem rounds_mono {c : Code} {Q Q' : Exit → Act → World → Prop} (h : ∀ e a w, Q e a w → Q' e a w) : ∀ (r : Nat) (a : Act) (w : World), Code.rounds P c Q r a w → Code.rounds P c Q' r a w
  | 0, _, _, hr => hr.elim
  | r + 1, a, w, hr => wp_mono hr fun e a w he => by
    cases e with
    | normal => exact rounds_mono h r a w he
    | _ => exact h _ _ _ he

theorem compF_of {f : FuncId} {fn : Func} {ef : EFunc} (h : compF P pf f fn = some ef) : ∃ c b r, fn.body = some c ∧ comp P pf c = some b ∧ compRes P fn.results.toList = some r ∧ fn.name ≠ "runtime.NumGoroutine" ∧ fits fn.ntmps b = true ∧
    ef = { nt := fn.ntmps, pure := pf f, body := b, res := r } := by
  unfold compF at h
  split at h
  · rename_i c hc
    split at h
    · rename_i b r h1 h2
      split at h
      · rename_i h3
        injection h with h
        exact ⟨c, b, r, hc, h1, h2, h3.1, h3.2, h.symm⟩
      · simp at h
    · simp at h
  · simp at h

theorem calls_good (t : Tie P pf E) {rec : Run} (hr : RunGood P pf E rec) : CallsGood P E (callA E rec) := by
  intro f args H v H' hcall A φ w args' hA hv hargs
  unfold callA at hcall
  split at hcall
  · simp at hcall
  · rename_i ef hef
    obtain ⟨fn, hfn, hcf⟩ := t.fn f ef hef
    obtain ⟨c, b, r, hb, hc, hres, hname, hfit, rfl⟩ := compF_of hcf
    refine ⟨run_callFunc hfn hb hname args' w, calls_of_wp hfn hb ?_⟩
    have key : ∀ ex fr' H1, rec b (mkFr args 0 .nil) H = some (ex, fr', H1) → (ex = .nrm ∨ ex = .ret) → (resList fr' H1 r).map (fun vs => (tupOf vs, H1)) = some (v, H') →
        c.wp P (bodyPost P fn fun e w' => ∃ (φ' : Fi) (v' : Value), e = .returned v' ∧ Grow φ H φ' H' ∧ Inv A φ' H' w'.heap ∧ Still w w' ∧ VR φ' v v') { tmps := args' ++ Array.replicate (fn.ntmps - args'.size) undef, defers := [] } w := by
      intro ex fr' H1 h1 hex h2
      obtain ⟨vs, h3, h4⟩ := map_some h2
      simp at h4
      obtain ⟨rfl, rfl⟩ := h4
      refine wp_mono (hr c b _ H ex fr' _ fn.ntmps A φ _ w hc hfit h1 hA hv (FR.enter hargs fn.ntmps) rfl) ?_
      rintro e a' w' ⟨he, φ', g1, g2, gst, g3, g4⟩
      obtain ⟨v', k1, k2⟩ := results_run (a := a') g2 g3 hres h3
      rcases hex with rfl | rfl <;> cases e <;> first | exact he.elim | exact ⟨g4, v', k1, φ', v', rfl, g1, g2, gst, k2⟩
    split at hcall
    · rename_i fr' H1 hrec
      exact key _ fr' H1 hrec (.inl rfl) hcall
    · rename_i fr' H1 hrec
      exact key _ fr' H1 hrec (.inr rfl) hcall
    · simp at hcall

theorem pures_good (t : Tie P pf E) {rec : Run} (hr : RunGood P pf E rec) : PuresGood P E (pureA E rec) := by
  intro f args v h
  unfold pureA at h
  split at h
  · rename_i g hg
    exact t.known f g hg args v h
  · split at h
    · rename_i hground
      split at h
      · rename_i v0 H0 hcall
        split at h
        · rename_i hv
          injection h with h; subst h
          intro φ args' w hargs hglob
          obtain ⟨φ0, hinv⟩ := hglob
          obtain ⟨k1, k2⟩ := calls_good t hr f args E.glob _ _ hcall _ φ0 w args' rfl hinv (hargs.ground hground)
          refine ⟨k1, k2.mono ?_⟩
          rintro e w' ⟨φ', v', rfl, m1, m2, mst, m3⟩
          exact ⟨v', rfl, fun ψ => m3.ground hv, mst, m2.leB, fun b hb => m2.old b hb⟩
        · simp at h
      · simp at h
    · simp at h

theorem CodeGood.weaken {A : Around} {φ φ1 : Fi} {H H1 H' : Heap} {nt : Nat} {ex : Ex} {fr' : Fr} (g : Grow φ H φ1 H1) {w0 w1 : World} (st : Still w0 w1) {e : Exit} {a : Act} {w : World} (h : CodeGood A w1 φ1 H1 nt ex fr' H' e a w) : CodeGood A w0 φ H nt ex fr' H' e a w := by
  obtain ⟨h1, φ', h2, h3, h4, h5, h6⟩ := h
  exact ⟨h1, φ', g.trans h2, h3, st.trans h4, h5, h6⟩

/-- Loops, round by round. -/
theorem slots (b : Array Nat) (ls : List Nat) (l : List EOper) (k : Nat) (o : EOper) (h : (withPlaces b ls l 0)[k]? = some o) : o.slot = k := by
  rw [withPlaces_get] at h
  obtain ⟨o0, _, h2⟩ := Option.map_eq_some_iff.1 h
  rw [← h2]; simp

theorem step_loop_good (t : Tie P pf E) {rec : Run} (hr : RunGood P pf E rec) {r : Nat} (hlp : LoopGood P pf E rec r) : LoopGood P pf E (step E rec) (r + 1) := by
  intro x ex' fr H ex fr' H' nt A φ a w hx hfit' hrun hA hv hf hd
  simp only [step] at hrun
  split at hrun
  · rename_i fr1 H1 h1
    refine wp_mono (hr x ex' fr H _ fr1 H1 nt A φ a w hx hfit' h1 hA hv hf hd) ?_
    rintro e a' w' ⟨he, φ', g1, g2, gst, g3, g4⟩
    cases e <;> first | exact he.elim | skip
    exact rounds_mono (fun e a w h => CodeGood.weaken g1 gst h) r a' w' (hlp x ex' fr1 H1 ex fr' H' nt A φ' a' w' hx hfit' hrun hA g2 g3 g4)
  · rename_i res hne
    refine wp_mono (hr x ex' fr H _ fr' H' nt A φ a w hx hfit' hrun hA hv hf hd) ?_
    rintro e a' w' ⟨he, h⟩
    cases ex with
    | nrm => exact absurd hrun (hne fr' H')
    | ret => cases e <;> first | exact he.elim | exact ⟨he, h⟩
    | exit i => cases e <;> first | exact he.elim | exact ⟨he, h⟩

theorem step_good (t : Tie P pf E) {rec : Run} (hr : RunGood P pf E rec) {r : Nat} (hlp : LoopGood P pf E rec r) : RunGood P pf E (step E rec)
  | .skip, ec, fr, H, ex, fr', H', nt, A, φ, a, w, hc, hfit, hrun, hA, hv, hf, hd => by
    simp [comp] at hc; subst hc
    simp [step] at hrun
    obtain ⟨rfl, rfl, rfl⟩ := hrun
    exact wp_skip ⟨trivial, φ, Grow.refl _ _, hv, Still.refl w, hf, hd⟩
  | .region id ops false, ec, fr, H, ex, fr', H', nt, A, φ, a, w, hc, hfit, hrun, hA, hv, hf, hd => by
    simp only [comp] at hc
    obtain ⟨l, hl, rfl⟩ := map_some hc
    simp only [step] at hrun
    obtain ⟨r, h1, h2⟩ := map_some hrun
    obtain ⟨fr1, H1⟩ := r
    simp at h2
    obtain ⟨rfl, rfl, rfl⟩ := h2
    refine wp_region_list ?_
    exact ops_wp t (calls_good t hr) (pures_good t hr) hA ops.toList l fr H φ a w hl hfit h1 hv hf hd fun φ' a' w' g1 g2 g3 g4 g5 => ⟨trivial, φ', g1, g2, g3, g4, g5⟩
  | .region id ops true, ec, fr, H, ex, fr', H', nt, A, φ, a, w, hc, hfit, hrun, hA, hv, hf, hd => by
    simp only [comp] at hc
    split at hc
    · rename_i l hl
      split at hc
      · rename_i hchk
        injection hc with hc; subst hc
        simp only [Bool.and_eq_true] at hchk
        simp only [step] at hrun
        obtain ⟨r, h1, h2⟩ := map_some hrun
        obtain ⟨fr1, H1⟩ := r
        simp at h2
        obtain ⟨rfl, rfl, rfl⟩ := h2
        exact draw_wp t (calls_good t hr) (pures_good t hr) hA (plan_of hl hchk.1.1 hchk.1.2 hchk.2 hfit) (slots _ _ _) h1 hv hf hd fun φ' a' w' g1 g2 g3 g4 g5 => ⟨trivial, φ', g1, g2, g3, g4, g5⟩
      · simp at hc
    · simp at hc
  | .seq x y, ec, fr, H, ex, fr', H', nt, A, φ, a, w, hc, hfit, hrun, hA, hv, hf, hd => by
    simp only [comp] at hc
    split at hc
    · rename_i ex' ey hx hy
      injection hc with hc; subst hc
      simp only [fits, Bool.and_eq_true] at hfit
      simp only [step] at hrun
      refine wp_seq ?_
      split at hrun
      · rename_i fr1 H1 h1
        refine wp_mono (hr x ex' fr H _ fr1 H1 nt A φ a w hx hfit.1 h1 hA hv hf hd) ?_
        rintro e a' w' ⟨he, φ', g1, g2, gst, g3, g4⟩
        cases e <;> first | exact he.elim | skip
        exact wp_mono (hr y ey fr1 H1 ex fr' H' nt A φ' a' w' hy hfit.2 hrun hA g2 g3 g4) fun e a w h => h.weaken g1 gst
      · rename_i r hne
        refine wp_mono (hr x ex' fr H _ fr' H' nt A φ a w hx hfit.1 hrun hA hv hf hd) ?_
        rintro e a' w' ⟨he, h⟩
        cases ex with
        | nrm => exact absurd hrun (hne fr' H')
        | ret => cases e <;> first | exact he.elim | exact ⟨he, h⟩
        | exit i => cases e <;> first | exact he.elim | exact ⟨he, h⟩
    · simp at hc
  | .cond c x y, ec, fr, H, ex, fr', H', nt, A, φ, a, w, hc, hfit, hrun, hA, hv, hf, hd => by
    simp only [comp] at hc
    split at hc
    · rename_i ec' ex' ey hcc hx hy
      injection hc with hc; subst hc
      simp only [fits, Bool.and_eq_true] at hfit
      simp only [step] at hrun
      have he := opnd_sound (hv.gAt t hA) hf hcc
      split at hrun
      · rename_i hb
        rw [hb] at he
        exact wp_cond_true he.of_bool (hr x ex' fr H ex fr' H' nt A φ a w hx hfit.1 hrun hA hv hf hd)
      · rename_i hb
        rw [hb] at he
        exact wp_cond_false he.of_bool (hr y ey fr H ex fr' H' nt A φ a w hy hfit.2 hrun hA hv hf hd)
      · simp at hrun
    · simp at hc
  | .block id x, ec, fr, H, ex, fr', H', nt, A, φ, a, w, hc, hfit, hrun, hA, hv, hf, hd => by
    simp only [comp] at hc
    obtain ⟨ex', hx, rfl⟩ := map_some hc
    simp only [fits] at hfit
    simp only [step] at hrun
    refine wp_block ?_
    split at hrun
    · rename_i j fr1 H1 h1
      refine wp_mono (hr x ex' fr H _ fr1 H1 nt A φ a w hx hfit h1 hA hv hf hd) ?_
      rintro e a' w' ⟨he, h⟩
      cases e <;> first | exact he.elim | skip
      rename_i j'
      have hj : j = j' := he
      subst hj
      simp only [Exit.inBlock]
      split at hrun
      · rename_i hji
        injection hrun with hrun
        injection hrun with e1 e2
        injection e2 with e2 e3
        subst e1; subst e2; subst e3
        rw [if_pos hji]
        exact ⟨trivial, h⟩
      · rename_i hji
        injection hrun with hrun
        injection hrun with e1 e2
        injection e2 with e2 e3
        subst e1; subst e2; subst e3
        rw [if_neg hji]
        exact ⟨rfl, h⟩
    · rename_i r hne
      refine wp_mono (hr x ex' fr H _ fr' H' nt A φ a w hx hfit hrun hA hv hf hd) ?_
      rintro e a' w' ⟨he, h⟩
      cases ex with
      | nrm => cases e <;> first | exact he.elim | exact ⟨he, h⟩
      | ret => cases e <;> first | exact he.elim | exact ⟨he, h⟩
      | exit i => exact absurd hrun (hne i fr' H')
  | .loop x, ec, fr, H, ex, fr', H', nt, A, φ, a, w, hc, hfit, hrun, hA, hv, hf, hd => by
    simp only [comp] at hc
    obtain ⟨ex', hx, rfl⟩ := map_some hc
    have hfit' : fits nt ex' = true := by simpa only [fits] using hfit
    exact wp_loop_rounds (r + 1) (step_loop_good t hr hlp x ex' fr H ex fr' H' nt A φ a w hx hfit' hrun hA hv hf hd)
  | .exit id, ec, fr, H, ex, fr', H', nt, A, φ, a, w, hc, hfit, hrun, hA, hv, hf, hd => by
    simp [comp] at hc; subst hc
    simp [step] at hrun
    obtain ⟨rfl, rfl, rfl⟩ := hrun
    exact wp_exit ⟨rfl, φ, Grow.refl _ _, hv, Still.refl w, hf, hd⟩
  | .scope x, ec, fr, H, ex, fr', H', nt, A, φ, a, w, hc, hfit, hrun, hA, hv, hf, hd => by
    simp only [comp] at hc
    refine wp_scope_straight ?_
    refine wp_mono (step_good t hr hlp x ec fr H ex fr' H' nt A φ a w hc hfit hrun hA hv hf hd) ?_
    rintro e a' w' ⟨he, h⟩
    cases ex <;> cases e <;> first | exact he.elim | exact ⟨he, h⟩
  | .ret, ec, fr, H, ex, fr', H', nt, A, φ, a, w, hc, hfit, hrun, hA, hv, hf, hd => by
    simp [comp] at hc; subst hc
    simp [step] at hrun
    obtain ⟨rfl, rfl, rfl⟩ := hrun
    exact wp_ret ⟨trivial, φ, Grow.refl _ _, hv, Still.refl w, hf, hd⟩
  | .goto _, ec, _, _, _, _, _, _, _, _, _, _, hc, _, _, _, _, _, _ => by simp [comp] at hc
  | .label _, ec, _, _, _, _, _, _, _, _, _, _, hc, _, _, _, _, _, _ => by simp [comp] at hc

theorem exec_good' (t : Tie P pf E) : ∀ n, RunGood P pf E (exec E n) ∧ LoopGood P pf E (exec E n) n
  | 0 => ⟨fun c ec fr H ex fr' H' nt A φ a w hc hfit hrun => by simp [exec] at hrun, fun c ec fr H ex fr' H' nt A φ a w hc hfit hrun => by simp [exec] at hrun⟩
  | n + 1 => ⟨step_good t (exec_good' t n).1 (exec_good' t n).2, step_loop_good t (exec_good' t n).1 (exec_good' t n).2⟩
theorem exec_good (t : Tie P pf E) (n : Nat) : RunGood P pf E (exec E n) := (exec_good' t n).1

/-- What a call comes to. -/
theorem call_good (t : Tie P pf E) (n : Nat) : CallsGood P E (call E n) := calls_good t (exec_good t n)
theorem pcall_good (t : Tie P pf E) (n : Nat) : PuresGood P E (pcall E n) := pures_good t (exec_good t n)

end
end Go.Ev
