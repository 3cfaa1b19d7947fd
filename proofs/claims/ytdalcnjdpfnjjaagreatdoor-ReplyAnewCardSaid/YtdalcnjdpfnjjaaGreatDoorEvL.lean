/- Each loud operation of the evaluator (but a call) is what the model does. -/
import Derived.Test.YtdalcnjdpfnjjaaGreatDoorEvK
set_option linter.unusedSimpArgs false
set_option linter.unusedVariables false
namespace Go.Ev
open Go

/-- A block taken over under another number. -/
theorem Inv.rename {A : Around} {φ : Fi} {H : Heap} {hp : Array Go.Obj} (v : Inv A φ H hp) {i b d d' sz : Nat} {ob : Obj} {o o' : Go.Obj}
    (hrw : (H.get i).rw = true) (hob : ob.rw = true) (hφ : φ i = some (b, d, sz)) (ho : hp[b]? = some o) (hb : Bears φ ob d' sz o') :
    Inv A (φ.put H.next b d' sz) ((H.set i .dead).alloc ob) (hp.setIfInBounds b o') := by
  have hn : φ H.next = none := v.dead_at_next (Nat.le_refl _)
  have hle := Fi.le_put φ H.next b d' sz hn
  have hlive := Obj.rw_live hrw
  have hine : i ≠ H.next := fun e => by rw [e, hn] at hφ; simp at hφ
  have hold : ∀ j x, j ≠ H.next → φ.put H.next b d' sz j = some x → φ j = some x := fun j x hj e => by rwa [Fi.put_ne _ _ _ _ _ hj] at e
  have getn : ((H.set i .dead).alloc ob).get H.next = ob := by rw [Heap.get_alloc, Heap.next_set, if_pos rfl]
  have geto : ∀ j, j ≠ H.next → j ≠ i → ((H.set i .dead).alloc ob).get j = H.get j := fun j h1 h2 => by
    rw [Heap.get_alloc, Heap.next_set, if_neg (fun e => h1 e.symm), Heap.get_set, if_neg (fun e => h2 e.symm)]
  have geti : ((H.set i .dead).alloc ob).get i = .dead := by
    rw [Heap.get_alloc, Heap.next_set, if_neg (fun e => hine e.symm), Heap.get_set, if_pos rfl]
  have other : ∀ j b' d'' s', j ≠ i → (H.get j).live = true → φ j = some (b', d'', s') → b ≠ b' := by
    intro j b' d'' s' hj hl h1 e
    subst e
    exact hj (v.sep i j b d sz d'' s' hrw hl hφ h1).symm
  have notl : ∀ j, (((H.set i .dead).alloc ob).get j).live = true → j ≠ i := fun j hl e => by rw [e, geti] at hl; simp [Obj.live] at hl
  refine { leB := ?_, bnd := ?_, obj := ?_, sep := ?_, frn := ?_, sepF := ?_, old := ?_, rwB := ?_, glb := ?_ }
  · simpa using v.leB
  · intro j b' d'' s' e
    by_cases hj : j = H.next
    · subst hj
      rw [Fi.put_same] at e
      simp at e
      have := (v.bnd i b d sz hφ).1
      simp [Heap.alloc, Heap.set]; omega
    · have := v.bnd j b' d'' s' (hold j _ hj e)
      simp [Heap.alloc, Heap.set]; omega
  · intro j hl
    by_cases hj : j = H.next
    · subst hj
      rw [getn] at hl ⊢
      exact ⟨b, d', sz, o', Fi.put_same _ _ _ _ _, set_same ho, hb.mono hle⟩
    · have hji := notl j hl
      rw [geto j hj hji] at hl ⊢
      obtain ⟨b', d'', s', o'', h1, h2, h3⟩ := v.obj j hl
      exact ⟨b', d'', s', o'', hle _ _ h1, by rw [set_other (other j b' d'' s' hji hl h1)]; exact h2, h3.mono hle⟩
  · intro j k b' d1 s1 d2 s2 hr hl h1 h2
    have hji := notl j (Obj.rw_live hr)
    have hki := notl k hl
    by_cases hj : j = H.next
    · by_cases hk : k = H.next
      · rw [hj, hk]
      · rw [geto k hk hki] at hl
        have h2' := hold k _ hk h2
        subst hj
        rw [Fi.put_same] at h1
        simp at h1
        exact absurd h1.1 (other k b' d2 s2 hki hl h2')
    · rw [geto j hj hji] at hr
      have h1' := hold j _ hj h1
      by_cases hk : k = H.next
      · subst hk
        rw [Fi.put_same] at h2
        simp at h2
        exact absurd h2.1 (other j b' d1 s1 hji (Obj.rw_live hr) h1')
      · rw [geto k hk hki] at hl
        exact v.sep j k b' d1 s1 d2 s2 hr hl h1' (hold k _ hk h2)
  · intro b' o'' hf
    have hne : b ≠ b' := by
      intro e; subst e
      rw [v.sepF i b d sz hlive hφ] at hf
      simp at hf
    rw [set_other hne]; exact v.frn b' o'' hf
  · intro j b' d1 s1 hl h1
    have hji := notl j hl
    by_cases hj : j = H.next
    · subst hj
      rw [Fi.put_same] at h1
      simp at h1
      rw [← h1.1]; exact v.sepF i b d sz hlive hφ
    · rw [geto j hj hji] at hl
      exact v.sepF j b' d1 s1 hl (hold j _ hj h1)
  · intro b' hlt
    rw [set_other (by have := v.rwB i b d sz hrw hφ; omega)]; exact v.old b' hlt
  · intro j b' d1 s1 hr h1
    have hji := notl j (Obj.rw_live hr)
    by_cases hj : j = H.next
    · subst hj
      rw [Fi.put_same] at h1
      simp at h1
      rw [← h1.1]; exact v.rwB i b d sz hrw hφ
    · rw [geto j hj hji] at hr
      exact v.rwB j b' d1 s1 hr (hold j _ hj h1)
  · intro g hg
    obtain ⟨h1, h2, s, h3⟩ := v.glb g hg
    have hlt := (v.bnd g g 0 s h3).2
    have hgi : g ≠ i := by
      intro e; subst e
      rw [h1] at hrw; rw [hrw] at h2; simp at h2
    refine ⟨by rw [geto g (by omega) hgi]; exact h1, h2, s, ?_⟩
    rw [Fi.put_ne _ _ _ _ _ (by omega)]; exact h3

section
variable {P : Program} {w : World} {A : Around} {φ : Fi} {H H' : Heap} {nt : Nat} {fr : Fr} {a : Act} {pf : FuncId → Bool} {v : V} {e : EOp}

/-- What is asked of a loud operation. -/
def LGood (A : Around) (w : World) (φ : Fi) (H : Heap) (v : V) (H' : Heap) (r : Result Next) : Prop :=
  ∃ (φ' : Fi) (w' : World), Grow φ H φ' H' ∧ Inv A φ' H' w'.heap ∧ Still w w' ∧ ((∃ v', r = .ok (.value v') w' ∧ VR φ' v v') ∨ (r = .ok .skip w' ∧ v = V.undef))

theorem store_next {x : V} {n : Nat} {c : List V} (h : store H x n c = some H') : H.next ≤ H'.next := by
  unfold store at h
  split at h
  · split at h
    · split at h
      · injection h with h; subst h; exact Nat.le_refl _
      · simp at h
    · simp at h
  · simp at h

theorem LGood.sem {s : Sem Value} {v' : Value} {φ' : Fi} {w' : World} (h : s.run P w = .ok v' w') (hle : Grow φ H φ' H') (hv : Inv A φ' H' w'.heap) (hr : VR φ' v v') (hst : Still w w' := by first | exact ⟨rfl, rfl⟩ | assumption) :
    LGood A w φ H v H' ((do pure (Next.value (← s)) : Sem Next).run P w) := ⟨φ', w', hle, hv, hst, .inl ⟨v', by simp [h], hr⟩⟩

theorem nofreeze {arr : Array Value} {lo hi : Nat} (h : lo = hi ∨ arr.size ≤ lo) : ∀ k, k < arr.size → ¬ (lo ≤ k ∧ k < hi) := by
  intro k hk; omega

/-- A row of cells, written. -/
theorem Inv.write (hv : Inv A φ H w.heap) {i o n : Nat} {c : List V} {c' : List Value} (h : store H (.ptr i o) n c = some H') (hc : VRs φ c c') {b d sz : Nat} (hφ : φ i = some (b, d, sz)) :
    c.length = n ∧ ∃ w' : World, (storeCells ⟨b, d + o, none⟩ c').run P w = .ok () w' ∧ Still w w' ∧ Inv A φ H' w'.heap := by
  simp only [store] at h
  split at h
  · rename_i cs hg
    split at h
    · rename_i hcond
      obtain ⟨q1, q2, q3⟩ := hcond
      injection h with h; subst h
      obtain ⟨arr, ty, lo, hi, g1, g2, g3, g4, g5⟩ := hv.cells hg hφ
      have hl := hc.1
      have hrun := run_storeRow P b (d + o) ty lo hi c' 0 arr w g1 (by omega) (nofreeze (g5 rfl)) (hc.isCell q3)
      refine ⟨q1, _, hrun, ⟨rfl, rfl⟩, ?_⟩
      refine hv.turn (by rw [hg]; rfl) rfl hφ g1 ⟨_, ty, lo, hi, rfl, by rw [putRow_size]; exact g2, by simp; omega, ?_, fun _ => by rw [putRow_size]; exact g5 rfl⟩
      intro k x hk
      rw [putRow_get _ _ _ (by omega)]
      by_cases hin : o ≤ k ∧ k < o + c.length
      · rw [if_pos (by omega)]
        rw [List.append_assoc, List.getElem?_append_right (by simp; omega), List.getElem?_append_left (by simp; omega)] at hk
        have e1 : (cs.take o).length = o := by simp; omega
        rw [e1] at hk
        obtain ⟨x', h1, h2⟩ := hc.get hk
        exact ⟨x', by rw [show d + k - (d + o + 0) = k - o by omega]; exact h1, h2⟩
      · rw [if_neg (by omega)]
        have hkk : cs[k]? = some x := by
          by_cases hlt : k < o
          · rw [List.append_assoc, List.getElem?_append_left (by simp; omega), List.getElem?_take, if_pos hlt] at hk; exact hk
          · rw [List.getElem?_append_right (by simp; omega), List.getElem?_drop] at hk
            have e1 : (cs.take o ++ c).length = o + c.length := by simp; omega
            rw [e1] at hk
            rwa [show o + n + (k - (o + c.length)) = k by omega] at hk
        exact g4 k x hkk
    · simp at h
  · simp at h

theorem l_store {t : TypeId} {x y : Operand} (hv : Inv A φ H w.heap) (hc : compOp P pf (.store t x y) = some e) (hg : GlobAt φ P.globals.size) (hf : FR φ nt fr a.tmps) {cf : FuncId → List V → Heap → Option (V × Heap)}
    (hq : lop cf e fr H = some (v, H')) : LGood A w φ H v H' ((do Instr.storeAt t (a.eval x) (a.eval y); pure Next.skip : Sem Next).run P w) := by
  simp only [compOp] at hc
  split at hc
  · rename_i x' y' i h1 h2 h3
    split at hc
    · rename_i hpos
      injection hc with hc; subst hc
      simp only [lop] at hq
      obtain ⟨H2, hs, h⟩ := map_some hq
      simp at h; obtain ⟨rfl, rfl⟩ := h
      have hx := opnd_sound hg hf h1
      have hy := (opnd_sound hg hf h2).cells
      cases hxx : ev fr x' with
      | ptr b o =>
        rw [hxx] at hs hx
        obtain ⟨b', d, sz, f1, f2⟩ := hx.of_ptr
        obtain ⟨hl, w', hrun, hstl, hinv⟩ := hv.write (P := P) hs hy f1
        have hl' := hy.1
        have hsz : ¬ (a.eval y).cells.size ≠ i.size := by simp at hl'; omega
        refine ⟨φ, w', ⟨store_next hs, fun _ _ => rfl⟩, hinv, hstl, .inr ⟨?_, rfl⟩⟩
        simp [Instr.storeAt, f2, Instr.sureAddr, storeVar, run_sizeOf' h3, hrun]
        omega
      | _ => rw [hxx] at hs; simp [store] at hs
    · simp at hc
  · simp at hc

end
end Go.Ev
