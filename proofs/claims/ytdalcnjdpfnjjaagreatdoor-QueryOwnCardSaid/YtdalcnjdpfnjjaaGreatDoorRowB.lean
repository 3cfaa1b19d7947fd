/- The sizes of strings in an argument of plain data are among its weights. -/
import Derived.Test.YtdalcnjdpfnjjaaGreatDoorRowA
set_option linter.unusedSimpArgs false
set_option linter.unusedVariables false
namespace Go.Ev
open Go Go.ChangeShapes Go.WideShapes Go.RowKit
section
variable {H : Type} {enc : TypeId × Value → H} {P : Program} {w : World} {base : Nat} {spare : Nat → Bool} {held : Bool}
/-- Each string of the cells is weighed. -/
def Wd (cs : List Value) (ws : List Nat) : Prop := ∀ s : ByteArray, Value.string s ∈ cs → s.size ∈ ws
theorem Wd.append {a b : List Value} {x y : List Nat} (h : Wd a x) (k : Wd b y) : Wd (a ++ b) (x ++ y) := fun s hs => by
  rcases List.mem_append.1 hs with hs | hs
  · exact List.mem_append_left _ (h s hs)
  · exact List.mem_append_right _ (k s hs)
theorem fields_w {n m : Nat} {cs : List Value}
    (ih : ∀ (t : TypeId) (ls : List Lf) (c : List Value) (x : DataW H × List MemPlace), leaves P n t = some ls → DataW.trod enc P w base spare held m t c = some x → LfsOk ls c ∧ Wd c (x.1.weights P t)) :
    ∀ (fs : List Field) (xs : List (DataW H × List MemPlace)) (o : Nat) (ls : List Lf), leavesF P (leaves P n) o fs = some ls → xs.length = fs.length → o + ls.length = cs.length →
      (∀ (i : Nat) (f : Field), fs[i]? = some f → DataW.trod enc P w base spare held m f.type ((cs.drop f.offset).take (P.cellsOf f.type)) = xs[i]?) →
      Wd (cs.drop o) (DataW.weightsEach P (fs.map (·.type)) (xs.map (·.1)))
  | [], xs, o, ls, hl, hx, ho, h => by
    simp [leavesF] at hl; subst hl
    have : cs.drop o = [] := List.drop_eq_nil_of_le (by simp at ho; omega)
    rw [this]
    intro s hs; simp at hs
  | f :: fs, [], o, ls, hl, hx, ho, h => by simp at hx
  | f :: fs, x :: xs, o, ls, hl, hx, ho, h => by
    simp only [leavesF] at hl
    split at hl
    · rename_i l1 h1
      split at hl
      · rename_i hc
        obtain ⟨h2, h3⟩ := hc
        cases hr : leavesF P (leaves P n) (o + l1.length) fs with
        | none => rw [hr] at hl; simp at hl
        | some l2 =>
          rw [hr] at hl
          simp at hl; subst hl
          have h0 := h 0 f rfl
          simp only [List.getElem?_cons_zero] at h0
          obtain ⟨k1, k2⟩ := ih _ _ _ _ h1 h0
          rw [h2, h3] at k2
          simp at ho
          have k3 := fields_w (cs := cs) ih fs xs (o + l1.length) l2 hr (by simpa using hx) (by omega) (fun i g hg => by simpa using h (i + 1) g (by simpa using hg))
          have hd : cs.drop o = (cs.drop o).take l1.length ++ cs.drop (o + l1.length) := by
            rw [← List.drop_drop, List.take_append_drop]
          rw [hd]
          simp only [List.map_cons, DataW.weightsEach]
          exact k2.append k3
      · simp at hl
    · simp at hl
theorem array_w {m c : Nat} {e : TypeId} {cs : List Value} {l1 : List Lf} (hc : c = l1.length)
    (ih : ∀ (c : List Value) (x : DataW H × List MemPlace), DataW.trod enc P w base spare held m e c = some x → LfsOk l1 c ∧ Wd c (x.1.weights P e)) :
    ∀ (k i0 : Nat) (xs : List (DataW H × List MemPlace)), xs.length = k → (i0 + k) * c = cs.length → (∀ i, i < k → DataW.trod enc P w base spare held m e ((cs.drop ((i0 + i) * c)).take c) = xs[i]?) →
      Wd (cs.drop (i0 * c)) (DataW.weightsAll P e (xs.map (·.1)))
  | 0, i0, xs, hx, ho, h => by
    have : cs.drop (i0 * c) = [] := List.drop_eq_nil_of_le (by rw [← ho]; simp)
    rw [this]
    intro s hs; simp at hs
  | k + 1, i0, [], hx, ho, h => by simp at hx
  | k + 1, i0, x :: xs, hx, ho, h => by
    have h0 := h 0 (by omega)
    simp only [List.getElem?_cons_zero, Nat.add_zero] at h0
    obtain ⟨k1, k2⟩ := ih _ _ h0
    have k3 := array_w (cs := cs) hc ih k (i0 + 1) xs (by simpa using hx) (by rw [← ho]; congr 1; omega) (fun i hi => by
      have := h (i + 1) (by omega)
      rw [show i0 + (i + 1) = i0 + 1 + i by omega] at this
      simpa using this)
    have hd : cs.drop (i0 * c) = (cs.drop (i0 * c)).take c ++ cs.drop ((i0 + 1) * c) := by
      rw [show (i0 + 1) * c = i0 * c + c by rw [Nat.add_mul, Nat.one_mul], ← List.drop_drop, List.take_append_drop]
    rw [hd]
    simp only [List.map_cons, DataW.weightsAll]
    exact k2.append k3
theorem leaves_w : ∀ (n fuel : Nat) (t : TypeId) (ls : List Lf) (cs : List Value) (x : DataW H × List MemPlace), leaves P n t = some ls → DataW.trod enc P w base spare held fuel t cs = some x → LfsOk ls cs ∧ Wd cs (x.1.weights P t)
  | 0, _, t, ls, cs, x, h, _ => by simp [leaves] at h
  | n + 1, fuel, t, ls, cs, x, h, hx => by
    refine ⟨(leaves_flat (n + 1) fuel t ls cs x h hx).1, ?_⟩
    simp only [leaves] at h
    split at h
    · rename_i ht
      obtain ⟨b, rfl, rfl⟩ := DataW.trod_bool ht hx
      intro s hs; simp at hs
    · rename_i k ht
      obtain ⟨m, rfl, rfl, hw⟩ := DataW.trod_int ht hx
      intro s hs; simp at hs
    · rename_i ht
      obtain ⟨s, rfl, rfl, hw⟩ := DataW.trod_string ht hx
      intro s' hs
      simp only [List.mem_singleton, Value.string.injEq] at hs
      subst hs
      simp [DataW.weights]
    · rename_i fs ht
      split at h
      · rename_i l2 h2
        split at h
        · rename_i hc
          obtain ⟨xs, m, rfl, rfl, hlen, hxs, hf⟩ := DataW.trod_struct ht hx
          have k2 := fields_w (cs := cs) (fun t ls c x a b => leaves_w n m t ls c x a b) fs.toList xs 0 l2 h2 (by simpa using hxs) (by rw [hlen, hc]; simp) (fun i f hi => hf i f (by simpa using hi))
          simp only [List.drop_zero] at k2
          simpa [DataW.weights, ht] using k2
        · simp at h
      · simp at h
    · rename_i k e ht
      split at h
      · rename_i l1 h1
        split at h
        · rename_i hc
          obtain ⟨hc1, hc2⟩ := hc
          obtain ⟨xs, m, rfl, rfl, hlen, hxs, hf⟩ := DataW.trod_array ht hx
          have k2 := array_w (cs := cs) (e := e) (m := m) hc1 (fun c x b => leaves_w n m e l1 c x h1 b) k 0 xs hxs (by rw [hlen, hc2, hc1]; simp) (fun i hi => by simpa using hf i hi)
          simp only [Nat.zero_mul, List.drop_zero] at k2
          simpa [DataW.weights, ht] using k2
        · simp at h
      · simp at h
    · simp at h
theorem arg_w {n : Nat} {t : TypeId} {ls : List Lf} {v : Value} {d : DataW H} {ps : List MemPlace} (h : leaves P n t = some ls) (hd : DataW.Trod enc P w base spare held t v d ps) : Wd v.cells.toList (d.weights P t) := by
  obtain ⟨fuel, hf⟩ := hd
  exact (leaves_w n fuel t ls _ _ h hf).2
end
end Go.Ev
