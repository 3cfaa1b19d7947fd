/- More fuel, the same answer. No program in sight. -/
import Derived.Test.YtdalcnjdpfnjjaaGreatDoorEvA
set_option linter.unusedSimpArgs false
set_option linter.unusedVariables false
namespace Go.Ev
open Go

section
variable {cf cf' : FuncId → List V → Heap → Option (V × Heap)} {pu pu' : FuncId → List V → Option V}

theorem lop_mono (h : ∀ f a H r, cf f a H = some r → cf' f a H = some r) {op : EOp} {fr : Fr} {H : Heap} {r : V × Heap} (hr : lop cf op fr H = some r) : lop cf' op fr H = some r := by
  cases op with
  | call f args => exact h _ _ _ _ hr
  | callv x args =>
    simp only [lop] at hr ⊢
    split at hr
    · rename_i f first cap hx
      exact h _ _ _ _ hr
    · simp at hr
  | _ => exact hr
theorem qop'_mono (h : ∀ f a r, pu f a = some r → pu' f a = some r) {op : EOp} {fr : Fr} {H : Heap} {nid : Nat} {r : V × Option Obj} (hr : qop' pu op fr H nid = some r) : qop' pu' op fr H nid = some r := by
  by_cases hp : ∃ f args, op = .pcall f args
  · obtain ⟨f, args, rfl⟩ := hp
    simp only [qop'] at hr ⊢
    cases hv : pu f (args.map (ev fr)) with
    | none => rw [hv] at hr; simp at hr
    | some v => rw [hv] at hr; rw [h _ _ _ hv]; exact hr
  · cases op <;> first | exact hr | exact absurd ⟨_, _, rfl⟩ hp
theorem runOps_mono (hc : ∀ f a H r, cf f a H = some r → cf' f a H = some r) (hp : ∀ f a r, pu f a = some r → pu' f a = some r) : ∀ (l : List EOper) (fr : Fr) (H : Heap) (r : Fr × Heap), runOps cf pu l fr H = some r → runOps cf' pu' l fr H = some r
  | [], fr, H, r, h => h
  | o :: l, fr, H, r, h => by
    simp only [runOps] at h ⊢
    split at h
    · rename_i hw
      rw [if_pos hw]
      split at h
      · rename_i hl
        rw [if_pos hl]
        split at h
        · rename_i v H' hv
          rw [lop_mono hc hv]
          exact runOps_mono hc hp l _ _ r h
        · simp at h
      · rename_i hl
        rw [if_neg hl]
        split at h
        · rename_i v hv
          rw [qop'_mono hp hv]
          exact runOps_mono hc hp l _ _ r h
        · rename_i v b hv
          rw [qop'_mono hp hv]
          exact runOps_mono hc hp l _ _ r h
        · simp at h
    · rename_i hw
      rw [if_neg hw]
      exact runOps_mono hc hp l _ _ r h
theorem okAt_mono (hp : ∀ f a r, pu f a = some r → pu' f a = some r) {op : EOp} {fr : Fr} {nid : Nat} {v : V} {b : Option Obj} {H : Heap} (h : okAt pu op fr nid v b H = true) : okAt pu' op fr nid v b H = true := by
  unfold okAt at h ⊢
  split at h
  · rename_i v' b' hq
    rw [qop'_mono hp hq]
    exact h
  · simp at h
theorem runDraw_mono (hc : ∀ f a H r, cf f a H = some r → cf' f a H = some r) (hp : ∀ f a r, pu f a = some r → pu' f a = some r) (base : Nat) : ∀ (l : List EOper) (fr : Fr) (H : Heap) (Hs : List Heap) (m : Nat) (pend : List (Nat × Nat × Obj)) (watch : List Rec) (r : Fr × Heap),
    runDraw cf pu base l fr H Hs m pend watch = some r → runDraw cf' pu' base l fr H Hs m pend watch = some r
  | [], fr, H, Hs, m, pend, watch, r, h => h
  | o :: l, fr, H, Hs, m, pend, watch, r, h => by
    simp only [runDraw] at h ⊢
    split at h
    · rename_i hl
      rw [if_pos hl]
      have key : ∀ x, (if wantedA o fr = true then lop cf o.op fr (commit m pend H) else some (V.undef, commit m pend H)) = some x → (if wantedA o fr = true then lop cf' o.op fr (commit m pend H) else some (V.undef, commit m pend H)) = some x := by
        intro x hx
        split at hx
        · rename_i hw; rw [if_pos hw]; exact lop_mono hc hx
        · rename_i hw; rw [if_neg hw]; exact hx
      split at h
      · rename_i v H' hv
        rw [key _ hv]
        simp only
        split at h
        · rename_i hall
          rw [if_pos]
          · exact runDraw_mono hc hp base l _ _ _ _ _ _ r h
          · rw [List.all_eq_true] at hall ⊢
            intro c hcm
            have := hall c hcm
            simp only [Bool.or_eq_true] at this ⊢
            exact this.imp id fun h => okAt_mono hp h
        · simp at h
      · simp at h
    · rename_i hl
      rw [if_neg hl]
      split at h
      · rename_i hw
        rw [if_pos hw]
        split at h
        · rename_i v b hq
          rw [qop'_mono hp hq]
          simp only
          split at h
          · rename_i hall
            rw [if_pos]
            · exact runDraw_mono hc hp base l _ _ _ _ _ _ r h
            · rw [List.all_eq_true] at hall ⊢
              intro c hcm
              exact okAt_mono hp (hall c hcm)
          · simp at h
        · simp at h
      · rename_i hw
        rw [if_neg hw]
        exact runDraw_mono hc hp base l _ _ _ _ _ _ r h
end

def Run.le (r r' : Run) : Prop := ∀ c fr H x, r c fr H = some x → r' c fr H = some x
theorem callA_mono (E : Env) {r r' : Run} (h : Run.le r r') {f : FuncId} {a : List V} {H : Heap} {x : V × Heap} (hx : callA E r f a H = some x) : callA E r' f a H = some x := by
  unfold callA at hx ⊢
  split at hx
  · simp at hx
  · rename_i ef hef
    split at hx
    · rename_i fr' H' hr; rw [h _ _ _ _ hr]; exact hx
    · rename_i fr' H' hr; rw [h _ _ _ _ hr]; exact hx
    · simp at hx
theorem pureA_mono (E : Env) {r r' : Run} (h : Run.le r r') {f : FuncId} {a : List V} {x : V} (hx : pureA E r f a = some x) : pureA E r' f a = some x := by
  unfold pureA at hx ⊢
  split at hx
  · exact hx
  · split at hx
    · rename_i hg
      rw [if_pos hg]
      split at hx
      · rename_i v H' hc
        rw [callA_mono E h hc]
        exact hx
      · simp at hx
    · simp at hx
theorem step_mono (E : Env) {r r' : Run} (h : Run.le r r') : Run.le (step E r) (step E r') := by
  intro c fr H x hx
  cases c with
  | skip => exact hx
  | ops l =>
    simp only [step, Option.map_eq_some_iff] at hx ⊢
    obtain ⟨y, h1, h2⟩ := hx
    exact ⟨y, runOps_mono (fun _ _ _ _ => callA_mono E h) (fun _ _ _ => pureA_mono E h) l fr H y h1, h2⟩
  | draw k l =>
    simp only [step, Option.map_eq_some_iff] at hx ⊢
    obtain ⟨y, h1, h2⟩ := hx
    exact ⟨y, runDraw_mono (fun _ _ _ _ => callA_mono E h) (fun _ _ _ => pureA_mono E h) _ l _ _ _ _ _ _ y h1, h2⟩
  | seq a b =>
    simp only [step] at hx ⊢
    split at hx
    · rename_i fr' H' hr; rw [h _ _ _ _ hr]; exact h _ _ _ _ hx
    · rename_i y hne
      rw [h _ _ _ _ hx]
      obtain ⟨e, fr', H'⟩ := x
      cases e with
      | nrm => exact absurd hx (hne fr' H')
      | _ => rfl
  | cond c a b =>
    simp only [step] at hx ⊢
    split at hx
    · rename_i hc; exact h _ _ _ _ hx
    · rename_i hc; exact h _ _ _ _ hx
    · simp at hx
  | block id b =>
    simp only [step] at hx ⊢
    split at hx
    · rename_i j fr' H' hr; rw [h _ _ _ _ hr]; exact hx
    · rename_i y hne
      rw [h _ _ _ _ hx]
      obtain ⟨e, fr', H'⟩ := x
      cases e with
      | exit j => exact absurd hx (hne j fr' H')
      | _ => rfl
  | loop b =>
    simp only [step] at hx ⊢
    split at hx
    · rename_i fr' H' hr; rw [h _ _ _ _ hr]; exact h _ _ _ _ hx
    · rename_i y hne
      rw [h _ _ _ _ hx]
      obtain ⟨e, fr', H'⟩ := x
      cases e with
      | nrm => exact absurd hx (hne fr' H')
      | _ => rfl
  | exit id => exact hx
  | ret => exact hx
theorem exec_le (E : Env) : ∀ n, Run.le (exec E n) (exec E (n + 1))
  | 0 => fun c fr H x h => by simp [exec] at h
  | n + 1 => step_mono E (exec_le E n)
theorem exec_mono (E : Env) {n m : Nat} (h : n ≤ m) : Run.le (exec E n) (exec E m) := by
  induction h with
  | refl => exact fun _ _ _ _ h => h
  | step _ ih => exact fun c fr H x hx => exec_le E _ c fr H x (ih c fr H x hx)
theorem call_mono (E : Env) {n m : Nat} (h : n ≤ m) {f : FuncId} {a : List V} {H : Heap} {x : V × Heap} (hx : call E n f a H = some x) : call E m f a H = some x := callA_mono E (exec_mono E h) hx
theorem pcall_mono (E : Env) {n m : Nat} (h : n ≤ m) {f : FuncId} {a : List V} {x : V} (hx : pcall E n f a = some x) : pcall E m f a = some x := pureA_mono E (exec_mono E h) hx
end Go.Ev
