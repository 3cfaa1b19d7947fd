/- Each quiet operation of the evaluator is what the model does. -/
import Derived.Test.YtdalcnjdpfnjjaaGreatDoorEvC
import Derived.Laws.IdiomCopy
set_option linter.unusedSimpArgs false
set_option linter.unusedVariables false
namespace Go.Ev
open Go

section
variable {P : Program} {w : World} {A : Around} {φ : Fi} {H : Heap}

theorem run_under {t : TypeId} {d : TypeDesc} (h : P.underlying t = some d) (w : World) : (underlying t).run P w = .ok d w := by
  simp [underlying, h]
theorem run_info {t : TypeId} {i : TypeInfo} (h : P.info? t = some i) (w : World) : (typeInfo t).run P w = .ok i w := by
  simp [typeInfo, h]
theorem run_sizeOf' {t : TypeId} {i : TypeInfo} (h : P.info? t = some i) (w : World) : (sizeOf t).run P w = .ok i.size w := by
  simp [sizeOf, run_info h]
theorem info_of_under {t : TypeId} {d : TypeDesc} (h : P.underlying t = some d) : ∃ i, P.info? t = some i := by
  unfold Program.underlying at h
  cases e : P.info? t with
  | none => simp [e] at h
  | some i => exact ⟨i, rfl⟩
theorem run_sizeOf_under {t : TypeId} {d : TypeDesc} (h : P.underlying t = some d) (w : World) : (sizeOf t).run P w = .ok (P.cellsOf t) w := by
  obtain ⟨i, hi⟩ := info_of_under h
  rw [run_sizeOf' hi]; simp [Program.cellsOf, hi]
theorem run_sizeOf_pos {t : TypeId} (h : 0 < P.cellsOf t) (w : World) : (sizeOf t).run P w = .ok (P.cellsOf t) w := by
  cases e : P.info? t with
  | none => simp [Program.cellsOf, e] at h
  | some i => rw [run_sizeOf' e]; simp [Program.cellsOf, e]
theorem run_isAgg {t : TypeId} {b : Bool} (h : aggOf P t = some b) (w : World) : (isAgg t).run P w = .ok b w := by
  unfold aggOf at h
  split at h
  · rename_i fs hu; injection h with h; subst h; simp [isAgg, run_under hu]
  · rename_i n e hu; injection h with h; subst h; simp [isAgg, run_under hu]
  · rename_i d h1 h2 h3
    injection h with h; subst h
    simp only [isAgg, Sem.run_bind, run_under h3, Result.andThen_ok]
    cases d <;> first | rfl | exact absurd rfl (h1 _) | exact absurd rfl (h2 _ _)
  · simp at h
theorem run_zero {t : TypeId} {cs : List V} (h : zeroCs P t = some cs) (w : World) :
    ∃ z : Value, (zeroValue t).run P w = .ok z w ∧ (∀ φ : Fi, VRs φ cs z.cells.toList) ∧ z.cells.size = P.cellsOf t ∧ cs.length = P.cellsOf t ∧ 0 < P.cellsOf t ∧ cs.all V.isCell = true := by
  unfold zeroCs at h
  cases e : P.info? t with
  | none => simp [e] at h
  | some i =>
    simp only [e, Option.bind_some] at h
    cases ez : i.zero with
    | none => simp [ez] at h
    | some z =>
      simp only [ez] at h
      cases ec : constV z with
      | none => simp [ec] at h
      | some v =>
        simp only [ec] at h
        split at h
        · rename_i hv
          injection h with h; subst h
          have hr : ∀ φ : Fi, VRs φ v.cells z.cells.toList := fun φ => (constV_sound ec).cells
          refine ⟨z, by simp [zeroValue, run_info e, ez], hr, ?_, hv.1, hv.2.1, hv.2.2⟩
          have := (hr (fun _ => none)).1
          simp at this
          omega
        · simp at h

/-! ### Reading -/

theorem VR.of_ptr {i o : Nat} {v' : Value} (r : VR φ (.ptr i o) v') : ∃ b d sz, φ i = some (b, d, sz) ∧ v' = .pointer (some ⟨b, d + o, none⟩) := by
  cases r with | ptr _ _ b d sz e => exact ⟨b, d, sz, e, rfl⟩
theorem VR.of_sl {i o n es : Nat} {f : Bool} {v' : Value} (r : VR φ (.sl i o n es f) v') :
    (∃ b d sz c, φ i = some (b, d, sz) ∧ n ≤ c ∧ (f = true → c = n) ∧ d + o + c * es ≤ sz ∧ v' = .slice (some ⟨b, d + o, none⟩) n c) ∨ (n = 0 ∧ ∃ a : Addr, a.spot = none ∧ v' = .slice (some a) 0 0) := by
  cases r with
  | sl _ _ _ _ _ b d sz c e h1 h2 h3 => exact .inl ⟨b, d, sz, c, e, h1, h2, h3, rfl⟩
  | sl0 _ _ _ _ a e => exact .inr ⟨rfl, a, e, rfl⟩
theorem VR.of_nils {v' : Value} (r : VR φ .nils v') : v' = .slice none 0 0 := by cases r; rfl
theorem VR.of_str {s : List Nat} {v' : Value} (r : VR φ (.str s) v') : ∃ bs, v' = .string bs ∧ ofBytes bs = s := by
  cases r with | str _ bs e => exact ⟨bs, rfl, e⟩
theorem VR.of_int {k : IntKind} {n : Int} {v' : Value} (r : VR φ (.int k n) v') : v' = .int k n := by cases r; rfl
theorem VR.of_bool {b : Bool} {v' : Value} (r : VR φ (.bool b) v') : v' = .bool b := by cases r; rfl

theorem Inv.cells {hp : Array Go.Obj} (v : Inv A φ H hp) {i : Nat} {ro : Bool} {cs : List V} (hi : H.get i = .cells ro cs) {b d sz : Nat} (hφ : φ i = some (b, d, sz)) :
    ∃ arr e lo hi, hp[b]? = some (.cells arr e (lo, hi)) ∧ arr.size = sz ∧ d + cs.length ≤ sz ∧
      (∀ (k : Nat) v, cs[k]? = some v → ∃ v', arr[d + k]? = some v' ∧ VR φ v v') ∧ (ro = false → lo = hi ∨ arr.size ≤ lo) := by
  obtain ⟨b', d', sz', o, h1, h2, h3⟩ := v.obj i (by rw [hi]; rfl)
  rw [hφ] at h1
  simp at h1
  obtain ⟨rfl, rfl, rfl⟩ := h1
  rw [hi] at h3
  obtain ⟨arr, e, lo, hi', rfl, h⟩ := h3
  exact ⟨arr, e, lo, hi', h2, h⟩

theorem Inv.read1 (v : Inv A φ H w.heap) {i : Nat} {ro : Bool} {cs : List V} (hi : H.get i = .cells ro cs) {b d sz : Nat} (hφ : φ i = some (b, d, sz)) {k : Nat} {x : V} (hk : cs[k]? = some x) :
    ∃ x', w.cell? ⟨b, d + k, none⟩ = some x' ∧ VR φ x x' := by
  obtain ⟨arr, e, lo, hi', h1, h2, h3, h4, _⟩ := v.cells hi hφ
  obtain ⟨x', h5, h6⟩ := h4 k x hk
  exact ⟨x', by rw [cell_of h1]; exact h5, h6⟩

theorem addr_add (b o j : Nat) : (⟨b, o, none⟩ : Addr).add j = ⟨b, o + j, none⟩ := by unfold Addr.add; split <;> simp_all

/-- A row of cells, read. -/
theorem Inv.readRow (v : Inv A φ H w.heap) {i : Nat} {ro : Bool} {cs : List V} (hi : H.get i = .cells ro cs) {b d sz : Nat} (hφ : φ i = some (b, d, sz)) {o n : Nat} (hn : o + n ≤ cs.length) :
    ∃ arr : Array Value, (∀ w2 : World, w2.heap = w.heap → (loadCells ⟨b, d + o, none⟩ n).run P w2 = .ok arr w2) ∧ arr.size = n ∧ VRs φ ((cs.drop o).take n) arr.toList := by
  obtain ⟨arr, e, lo, hi', h1, h2, h3, h4, _⟩ := v.cells hi hφ
  let l : List Value := (arr.toList.drop (d + o)).take n
  have hl : l.length = n := by simp [l]; omega
  have hcell : ∀ w2 : World, w2.heap = w.heap → ∀ (j : Nat) (x : Value), l[j]? = some x → w2.cell? ⟨b, d + o + j, none⟩ = some x := by
    intro w2 hw j x hx
    rw [cell_of (hw ▸ h1)]
    simp only [l, List.getElem?_take, List.getElem?_drop] at hx
    split at hx
    · simpa using hx
    · simp at hx
  refine ⟨l.toArray, fun w2 hw => ?_, by simpa using hl, ?_⟩
  · have := run_loadCells_list (P := P) w2 ⟨b, d + o, none⟩ l (fun j x hx => by rw [addr_add]; exact hcell w2 hw j x hx)
    rwa [hl] at this
  · refine ⟨by simp [hl]; omega, fun k x x' hx hx' => ?_⟩
    rw [List.getElem?_take] at hx
    split at hx
    · rw [List.getElem?_drop] at hx
      obtain ⟨y, hy1, hy2⟩ := h4 _ _ hx
      simp only [List.toList_toArray, l, List.getElem?_take, List.getElem?_drop] at hx'
      rename_i hk
      rw [if_pos hk] at hx'
      have : y = x' := by
        have e1 : arr.toList[d + o + k]? = some y := by rw [Array.getElem?_toList, Nat.add_assoc]; exact hy1
        rw [e1] at hx'; injection hx'
      rw [← this]; exact hy2
    · simp at hx

/-- The elements of a slice, read. -/
theorem slCells_read (v : Inv A φ H w.heap) {es : Nat} {x : V} {cs : List V} (h : slCells H es x = some cs) {x' : Value} (r : VR φ x x') :
    ∃ (a : Option Addr) (n c : Nat), x' = .slice a n c ∧ cs.length = n * es ∧
      (match a with
       | none => cs = [] ∧ n = 0 ∧ c = 0
       | some a => ∃ arr : Array Value, (loadCells a (n * es)).run P w = .ok arr w ∧ arr.size = n * es ∧ VRs φ cs arr.toList) := by
  unfold slCells at h
  split at h
  · injection h with h; subst h
    rw [r.of_nils]
    exact ⟨none, 0, 0, rfl, by simp, rfl, rfl, rfl⟩
  · rename_i i o n es' f
    split at h
    · rename_i ro cs' hg
      split at h
      · rename_i hc
        obtain ⟨rfl, hle⟩ := hc
        injection h with h; subst h
        rcases r.of_sl with ⟨b, d, sz, c, hφ, _, _, _, rfl⟩ | ⟨rfl, a, _, rfl⟩
        · obtain ⟨arr, h1, h2, h3⟩ := v.readRow (P := P) hg hφ hle
          exact ⟨_, n, c, rfl, by simp; omega, arr, h1 w rfl, h2, h3⟩
        · refine ⟨_, 0, 0, rfl, by simp, #[], ?_, by simp, ?_⟩
          · simpa using run_loadCells_list (P := P) w a [] (fun j v hj => by simp at hj)
          · simp; exact .nil φ
      · simp at h
    · simp at h
  · simp at h

/-! ### What is asked of a quiet operation -/

/-- The streams are as they were. -/
def Still (w w' : World) : Prop := w'.os = w.os ∧ w'.output = w.output
theorem Still.refl (w : World) : Still w w := ⟨rfl, rfl⟩
theorem Still.trans {a b c : World} (h : Still a b) (k : Still b c) : Still a c := ⟨k.1.trans h.1, k.2.trans h.2⟩

def QGood (φ : Fi) (w : World) (nid : Nat) (v : V) (ob : Option Obj) (r : Result Next) : Prop :=
  ∃ v' w', r = .ok (.value v') w' ∧ Still w w' ∧
    match ob with
    | none => w'.heap = w.heap ∧ VR φ v v'
    | some b => ∃ o' sz, w'.heap = w.heap.push o' ∧ VR (φ.put nid w.heap.size 0 sz) v v' ∧ Bears (φ.put nid w.heap.size 0 sz) b 0 sz o'

theorem QGood.same {nid : Nat} {v : V} {r : Result Next} {v' : Value} (h : r = .ok (.value v') w) (hr : VR φ v v') : QGood φ w nid v none r := ⟨v', w, h, Still.refl w, rfl, hr⟩
theorem QGood.sem {nid : Nat} {v : V} {s : Sem Value} {v' : Value} (h : s.run P w = .ok v' w) (hr : VR φ v v') :
    QGood φ w nid v none ((do pure (Next.value (← s)) : Sem Next).run P w) := ⟨v', w, by simp [h], Still.refl w, rfl, hr⟩
theorem QGood.semNew {nid : Nat} {v : V} {b : Obj} {s : Sem Value} {v' : Value} {w' : World} {o' : Go.Obj} {sz : Nat} (h : s.run P w = .ok v' w') (hw : w'.heap = w.heap.push o')
    (hr : VR (φ.put nid w.heap.size 0 sz) v v') (hb : Bears (φ.put nid w.heap.size 0 sz) b 0 sz o') (hst : Still w w' := by exact ⟨rfl, rfl⟩) :
    QGood φ w nid v (some b) ((do pure (Next.value (← s)) : Sem Next).run P w) := ⟨v', w', by simp [h], hst, o', sz, hw, hr, hb⟩

/-- A row of cells in a new block. -/
theorem Bears.new {ψ : Fi} {cs : List V} {arr : Array Value} {e : TypeId} (h : VRs ψ cs (arr.toList.take cs.length)) (hl : cs.length ≤ arr.size) : Bears ψ (.cells false cs) 0 arr.size (.cells arr e) := by
  refine ⟨arr, e, 0, 0, rfl, rfl, by omega, fun k v hk => ?_, fun _ => .inl rfl⟩
  obtain ⟨v', h1, h2⟩ := h.get hk
  have hlt : k < cs.length := (List.getElem?_eq_some_iff.1 hk).1
  rw [List.getElem?_take, if_pos hlt, Array.getElem?_toList] at h1
  exact ⟨v', by simpa using h1, h2⟩
theorem Bears.new' {ψ : Fi} {cs : List V} {arr : Array Value} {e : TypeId} (h : VRs ψ cs arr.toList) : Bears ψ (.cells false cs) 0 arr.size (.cells arr e) := by
  have hl := h.1
  simp at hl
  exact Bears.new (by rw [List.take_of_length_le (by simp; omega)]; exact h) (by omega)

theorem run_newRow (e : TypeId) (c : Array Value) (w : World) : (newRow e c).run P w = .ok ⟨w.heap.size, 0, none⟩ { w with heap := w.heap.push (.cells c e) } := by
  simp [newRow]

variable {nt : Nat} {fr : Fr} {a : Act}

theorem map_some {α β : Type} {f : α → β} {x : Option α} {y : β} (h : x.map f = some y) : ∃ z, x = some z ∧ f z = y := Option.map_eq_some_iff.1 h

/-! ### Filling in the parts of a struct, an array, a slice -/

theorem zipIdx_fold (off : Nat) : ∀ (l : List Value) (k : Nat) (cs : Array Value), (l.zipIdx k).foldl (fun cs x => cs.setIfInBounds (off + x.2) x.1) cs = putRow cs (off + k) l
  | [], k, cs => by simp [putRow]
  | v :: l, k, cs => by
    simp only [List.zipIdx_cons, List.foldl_cons, putRow]
    rw [zipIdx_fold off l (k + 1)]
    rfl
theorem fold_cells (off : Nat) (v cs : Array Value) : v.zipIdx.foldl (fun cs x => cs.setIfInBounds (off + x.2) x.1) cs = putRow cs off v.toList := by
  rw [← Array.foldl_toList]
  have := zipIdx_fold off v.toList 0 cs
  simpa using this

theorem VRs.putRow {ψ : Fi} {cs c : List V} {arr : Array Value} {c' : List Value} {off : Nat} (h : VRs ψ cs arr.toList) (hc : VRs ψ c c') (hl : off + c.length ≤ cs.length) :
    VRs ψ (cs.take off ++ c ++ cs.drop (off + c.length)) (putRow arr off c').toList := by
  have h1 := h.1
  have h2 := hc.1
  simp at h1
  refine ⟨by simp [putRow_size]; omega, fun k x x' hx hx' => ?_⟩
  rw [Array.getElem?_toList, putRow_get _ _ _ (by omega)] at hx'
  by_cases hk : off ≤ k ∧ k < off + c'.length
  · rw [if_pos hk] at hx'
    rw [List.append_assoc, List.getElem?_append_right (by simp; omega), List.getElem?_append_left (by simp; omega)] at hx
    have : (cs.take off).length = off := by simp; omega
    rw [this] at hx
    exact hc.2 _ _ _ hx hx'
  · rw [if_neg hk] at hx'
    have hxx : cs[k]? = some x := by
      by_cases hlt : k < off
      · rw [List.append_assoc, List.getElem?_append_left (by simp; omega), List.getElem?_take, if_pos hlt] at hx; exact hx
      · rw [List.getElem?_append_right (by simp; omega), List.getElem?_drop] at hx
        have e : (cs.take off ++ c).length = off + c.length := by simp; omega
        rw [e] at hx
        rwa [show off + c.length + (k - (off + c.length)) = k by omega] at hx
    exact h.2 k x x' hxx (by rw [Array.getElem?_toList]; exact hx')

/-- 'fill', part by part. -/
theorem fill_sound {ψ : Fi} {place : Nat → Option (Nat × Nat)} : ∀ (ps : List (Nat × Nat × V)) (ps' : List (Nat × Value)) (cs : List V) (arr : Array Value) (cs' : List V),
    VRs ψ cs arr.toList → ps.length = ps'.length → (∀ (i : Nat) o s x j x', ps[i]? = some (o, s, x) → ps'[i]? = some (j, x') → place j = some (o, s) ∧ VR ψ x x') →
    fillA cs ps = some cs' → ∃ arr', Instr.fill place arr ps' = some arr' ∧ VRs ψ cs' arr'.toList
  | [], ps', cs, arr, cs', h, hl, _, hf => by
    have : ps' = [] := List.length_eq_zero_iff.1 (by simpa using hl.symm)
    subst this
    simp [fillA] at hf; subst hf
    exact ⟨arr, rfl, h⟩
  | (o, s, x) :: ps, ps', cs, arr, cs', h, hl, hp, hf => by
    cases ps' with
    | nil => simp at hl
    | cons p ps' =>
      obtain ⟨j, x'⟩ := p
      obtain ⟨h1, h2⟩ := hp 0 o s x j x' rfl rfl
      simp only [fillA] at hf
      split at hf
      · rename_i hc
        have hx := h2.cells
        have hx1 := hx.1
        have hh := h.1
        simp at hx1 hh
        have hstep := VRs.putRow (off := o) h hx (by omega)
        rw [hc.1] at hstep
        obtain ⟨arr', e1, e2⟩ := fill_sound ps ps' _ _ cs' hstep (by simpa using hl) (fun i o s x j x' a b => hp (i + 1) o s x j x' (by simpa using a) (by simpa using b)) hf
        refine ⟨arr', ?_, e2⟩
        simp only [Instr.fill, h1]
        rw [if_neg (by simp; omega)]
        rw [fold_cells]
        exact e1
      · simp at hf

end
end Go.Ev
