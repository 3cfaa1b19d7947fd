/- The row: plain arguments read as their cells; behind the call all reads as it did. No program in sight. -/
import Derived.Test.YtdalcnjdpfnjjaaGreatDoorEvV
import Derived.ChangeSame
import Derived.JoinedOf
import Derived.RowKit
import Derived.LaidLaws
import Derived.LaidMore
import Derived.OpenShut
import Derived.WideKeyArgs
import Derived.Carry
import Derived.Handed
set_option linter.unusedSimpArgs false
set_option linter.unusedVariables false
namespace Go.Ev
open Go Go.ChangeShapes Go.WideShapes Go.RowKit

/-! ### Plain data, cell by cell -/

inductive Lf where
  | b
  | i (k : IntKind)
  | s

def leavesF (P : Program) (rec : TypeId → Option (List Lf)) : Nat → List Field → Option (List Lf)
  | _, [] => some []
  | o, f :: fs => match rec f.type with
    | some ls => if f.offset = o ∧ P.cellsOf f.type = ls.length then (leavesF P rec (o + ls.length) fs).map (ls ++ ·) else none
    | none => none
def leaves (P : Program) : Nat → TypeId → Option (List Lf)
  | 0, _ => none
  | n + 1, t => match P.underlying t with
    | some .bool => some [.b]
    | some (.int k) => some [.i k]
    | some .string => some [.s]
    | some (.struct fs) => match leavesF P (leaves P n) 0 fs.toList with
      | some ls => if P.cellsOf t = ls.length then some ls else none
      | none => none
    | some (.array k e) => match leaves P n e with
      | some ls => if P.cellsOf e = ls.length ∧ P.cellsOf t = k * ls.length then some (List.replicate k ls).flatten else none
      | none => none
    | _ => none
def LfOk : Lf → Value → Prop
  | .b, v => ∃ x, v = .bool x
  | .i k, v => ∃ n, v = .int k n ∧ (Lit.int k n).wf = true
  | .s, v => ∃ s : ByteArray, v = .string s ∧ s.size ≤ maxLen
def LfsOk : List Lf → List Value → Prop
  | [], [] => True
  | l :: ls, v :: vs => LfOk l v ∧ LfsOk ls vs
  | _, _ => False
mutual
def flatD {H : Type} : DataW H → Option (List Value)
  | .lit (.int k n) => some [.int k n]
  | .lit (.bool b) => some [.bool b]
  | .lit (.string l) => some [.string ⟨l.toArray⟩]
  | .agg ds => flatDs ds
  | _ => none
def flatDs {H : Type} : List (DataW H) → Option (List Value)
  | [] => some []
  | d :: r => match flatD d, flatDs r with
    | some a, some b => some (a ++ b)
    | _, _ => none
end

theorem LfsOk.len : ∀ {ls : List Lf} {vs : List Value}, LfsOk ls vs → ls.length = vs.length
  | [], [], _ => rfl
  | _ :: ls, _ :: vs, h => by simp [LfsOk.len h.2]
theorem LfsOk.append : ∀ {a b : List Lf} {x y : List Value}, LfsOk a x → LfsOk b y → LfsOk (a ++ b) (x ++ y)
  | [], b, [], y, _, h => h
  | _ :: a, b, _ :: x, y, h, k => ⟨h.1, LfsOk.append h.2 k⟩

section
variable {H : Type} {enc : TypeId × Value → H} {P : Program} {w : World} {base : Nat} {spare : Nat → Bool} {held : Bool}

theorem fields_flat {n m : Nat} {cs : List Value}
    (ih : ∀ (t : TypeId) (ls : List Lf) (c : List Value) (x : DataW H × List MemPlace), leaves P n t = some ls → DataW.trod enc P w base spare held m t c = some x → LfsOk ls c ∧ flatD x.1 = some c) :
    ∀ (fs : List Field) (xs : List (DataW H × List MemPlace)) (o : Nat) (ls : List Lf), leavesF P (leaves P n) o fs = some ls → xs.length = fs.length → o + ls.length = cs.length →
      (∀ (i : Nat) (f : Field), fs[i]? = some f → DataW.trod enc P w base spare held m f.type ((cs.drop f.offset).take (P.cellsOf f.type)) = xs[i]?) →
      LfsOk ls (cs.drop o) ∧ flatDs (xs.map (·.1)) = some (cs.drop o)
  | [], xs, o, ls, hl, hx, ho, h => by
    simp [leavesF] at hl; subst hl
    have : xs = [] := List.length_eq_zero_iff.1 (by simpa using hx)
    subst this
    have : cs.drop o = [] := List.drop_eq_nil_of_le (by simp at ho; omega)
    rw [this]
    exact ⟨trivial, rfl⟩
  | f :: fs, [], o, ls, hl, hx, ho, h => by simp at hx
  | f :: fs, x :: xs, o, ls, hl, hx, ho, h => by
    simp only [leavesF] at hl
    split at hl
    · rename_i l1 h1
      split at hl
      · rename_i hc
        obtain ⟨h2, h3⟩ := hc
        cases hr : leavesF P (leaves P n) (o + l1.length) fs with
        | none => rw [hr] at hl; simp at hl
        | some l2 =>
          rw [hr] at hl
          simp at hl; subst hl
          have h0 := h 0 f rfl
          simp only [List.getElem?_cons_zero] at h0
          obtain ⟨k1, k2⟩ := ih _ _ _ _ h1 h0
          rw [h2, h3] at k1 k2
          simp at ho
          obtain ⟨k3, k4⟩ := fields_flat (cs := cs) ih fs xs (o + l1.length) l2 hr (by simpa using hx) (by omega) (fun i g hg => by simpa using h (i + 1) g (by simpa using hg))
          have hd : cs.drop o = (cs.drop o).take l1.length ++ cs.drop (o + l1.length) := by
            rw [← List.drop_drop, List.take_append_drop]
          refine ⟨by rw [hd]; exact k1.append k3, ?_⟩
          simp only [List.map_cons, flatDs, k2, k4]
          rw [← hd]
      · simp at hl
    · simp at hl

theorem array_flat {m c : Nat} {e : TypeId} {cs : List Value} {l1 : List Lf} (hc : c = l1.length)
    (ih : ∀ (c : List Value) (x : DataW H × List MemPlace), DataW.trod enc P w base spare held m e c = some x → LfsOk l1 c ∧ flatD x.1 = some c) :
    ∀ (k i0 : Nat) (xs : List (DataW H × List MemPlace)), xs.length = k → (i0 + k) * c = cs.length → (∀ i, i < k → DataW.trod enc P w base spare held m e ((cs.drop ((i0 + i) * c)).take c) = xs[i]?) →
      LfsOk (List.replicate k l1).flatten (cs.drop (i0 * c)) ∧ flatDs (xs.map (·.1)) = some (cs.drop (i0 * c))
  | 0, i0, xs, hx, ho, h => by
    have : xs = [] := List.length_eq_zero_iff.1 hx
    subst this
    have : cs.drop (i0 * c) = [] := List.drop_eq_nil_of_le (by rw [← ho]; simp)
    rw [this]
    exact ⟨trivial, rfl⟩
  | k + 1, i0, [], hx, ho, h => by simp at hx
  | k + 1, i0, x :: xs, hx, ho, h => by
    have h0 := h 0 (by omega)
    simp only [List.getElem?_cons_zero, Nat.add_zero] at h0
    obtain ⟨k1, k2⟩ := ih _ _ h0
    obtain ⟨k3, k4⟩ := array_flat (cs := cs) hc ih k (i0 + 1) xs (by simpa using hx) (by rw [← ho]; congr 1; omega) (fun i hi => by
      have := h (i + 1) (by omega)
      rw [show i0 + (i + 1) = i0 + 1 + i by omega] at this
      simpa using this)
    have hd : cs.drop (i0 * c) = (cs.drop (i0 * c)).take c ++ cs.drop ((i0 + 1) * c) := by
      rw [show (i0 + 1) * c = i0 * c + c by rw [Nat.add_mul, Nat.one_mul], ← List.drop_drop, List.take_append_drop]
    refine ⟨by rw [hd, List.replicate_succ, List.flatten_cons]; exact k1.append k3, ?_⟩
    simp only [List.map_cons, flatDs, k2, k4]
    rw [← hd]

theorem leaves_flat : ∀ (n fuel : Nat) (t : TypeId) (ls : List Lf) (cs : List Value) (x : DataW H × List MemPlace), leaves P n t = some ls → DataW.trod enc P w base spare held fuel t cs = some x → LfsOk ls cs ∧ flatD x.1 = some cs
  | 0, _, t, ls, cs, x, h, _ => by simp [leaves] at h
  | n + 1, fuel, t, ls, cs, x, h, hx => by
    simp only [leaves] at h
    split at h
    · rename_i ht
      injection h with h; subst h
      obtain ⟨b, rfl, rfl⟩ := DataW.trod_bool ht hx
      exact ⟨⟨⟨b, rfl⟩, trivial⟩, rfl⟩
    · rename_i k ht
      injection h with h; subst h
      obtain ⟨m, rfl, rfl, hw⟩ := DataW.trod_int ht hx
      exact ⟨⟨⟨m, rfl, hw⟩, trivial⟩, rfl⟩
    · rename_i ht
      injection h with h; subst h
      obtain ⟨s, rfl, rfl, hw⟩ := DataW.trod_string ht hx
      exact ⟨⟨⟨s, rfl, hw⟩, trivial⟩, by simp [flatD]⟩
    · rename_i fs ht
      split at h
      · rename_i l2 h2
        split at h
        · rename_i hc
          injection h with h; subst h
          obtain ⟨xs, m, rfl, rfl, hlen, hxs, hf⟩ := DataW.trod_struct ht hx
          obtain ⟨k1, k2⟩ := fields_flat (cs := cs) (fun t ls c x a b => leaves_flat n m t ls c x a b) fs.toList xs 0 l2 h2 (by simpa using hxs) (by rw [hlen, hc]; simp) (fun i f hi => hf i f (by simpa using hi))
          simp only [List.drop_zero] at k1 k2
          exact ⟨k1, by simpa [flatD] using k2⟩
        · simp at h
      · simp at h
    · rename_i k e ht
      split at h
      · rename_i l1 h1
        split at h
        · rename_i hc
          obtain ⟨hc1, hc2⟩ := hc
          injection h with h; subst h
          obtain ⟨xs, m, rfl, rfl, hlen, hxs, hf⟩ := DataW.trod_array ht hx
          obtain ⟨k1, k2⟩ := array_flat (cs := cs) (e := e) (m := m) hc1 (fun c x b => leaves_flat n m e l1 c x h1 b) k 0 xs hxs (by rw [hlen, hc2, hc1]; simp) (fun i hi => by simpa using hf i hi)
          simp only [Nat.zero_mul, List.drop_zero] at k1 k2
          exact ⟨k1, by simpa [flatD] using k2⟩
        · simp at h
      · simp at h
    · simp at h

/-- An argument of plain data: its cells. -/
theorem arg_flat {n : Nat} {t : TypeId} {ls : List Lf} {v : Value} {d : DataW H} {ps : List MemPlace} (h : leaves P n t = some ls) (hd : DataW.Trod enc P w base spare held t v d ps) : LfsOk ls v.cells.toList := by
  obtain ⟨fuel, hf⟩ := hd
  exact (leaves_flat n fuel t ls _ _ h hf).1
end

theorem lfs_cons {l : Lf} {ls : List Lf} {vs : List Value} (h : LfsOk (l :: ls) vs) : ∃ v r, vs = v :: r ∧ LfOk l v ∧ LfsOk ls r := by
  cases vs with
  | nil => exact h.elim
  | cons v r => exact ⟨v, r, rfl, h.1, h.2⟩
theorem lfs_nil {vs : List Value} (h : LfsOk [] vs) : vs = [] := by
  cases vs with
  | nil => rfl
  | cons v r => exact h.elim
theorem lfs6 {l0 l1 l2 l3 l4 l5 : Lf} {vs : List Value} (h : LfsOk [l0, l1, l2, l3, l4, l5] vs) : ∃ v0 v1 v2 v3 v4 v5, vs = [v0, v1, v2, v3, v4, v5] ∧ LfOk l0 v0 ∧ LfOk l1 v1 ∧ LfOk l2 v2 ∧ LfOk l3 v3 ∧ LfOk l4 v4 ∧ LfOk l5 v5 := by
  obtain ⟨v0, r, rfl, h0, h⟩ := lfs_cons h
  obtain ⟨v1, r, rfl, h1, h⟩ := lfs_cons h
  obtain ⟨v2, r, rfl, h2, h⟩ := lfs_cons h
  obtain ⟨v3, r, rfl, h3, h⟩ := lfs_cons h
  obtain ⟨v4, r, rfl, h4, h⟩ := lfs_cons h
  obtain ⟨v5, r, rfl, h5, h⟩ := lfs_cons h
  obtain rfl := lfs_nil h
  exact ⟨v0, v1, v2, v3, v4, v5, rfl, h0, h1, h2, h3, h4, h5⟩

/-! ### Behind the call -/

theorem trodAll_stays {H : Type} {enc : TypeId × Value → H} {P : Program} (hl : laidOutB P = true) {W W' : World} {sp' : Nat → Bool} : ∀ (ts : List TypeId) (vs : List Value) (ds : List (DataW H)) (ps : List MemPlace),
    ts.all (fun t => P.readableRec t && decide (t < P.types.size)) = true → DataW.TrodAll enc P W 0 (fun _ => true) true ts vs ds ps → (∀ p ∈ ps, W.sameAt W' p) → (∀ p ∈ ps, sp' p.block = true) →
    DataW.TrodAll enc P W' 0 sp' true ts vs ds ps
  | [], [], [], ps, _, h, _, _ => h
  | t :: ts, v :: vs, d :: ds, ps, ht, h, hs, hp => by
    obtain ⟨p, q, h1, h2, rfl⟩ := h
    simp only [List.all_cons, Bool.and_eq_true, decide_eq_true_eq] at ht
    exact ⟨p, q, WideElems.Trod_stays hl ht.1.1 ht.1.2 h1 (fun x hx => hs x (by simp [hx])) (fun x hx => hp x (by simp [hx])),
      trodAll_stays hl ts vs ds q ht.2 h2 (fun x hx => hs x (by simp [hx])) (fun x hx => hp x (by simp [hx])), rfl⟩

theorem law_post {H : Type} {enc : TypeId × Value → H} {P : Program} {f : Func} {s : ChangeSpec} {W W' : World} {args : Array Value} {ds gs : List (DataW H)} {before : List MemPlace} {tb : TypeId}
    (hl : laidOutB P = true) (hts : f.params.toList.all (fun t => P.readableRec t && decide (t < P.types.size)) = true) (hvars : s.vars = []) (hres : f.resultTypes = #[tb]) (htb : P.underlying tb = some .bool)
    (hspec : (s.fn H (ds ++ gs)) = { results := [.lit (.bool true)], args := ds })
    (hW : DataW.Whole enc P f.params.toList s.vars false W args.toList ds gs before) (hst : Still W W') (hs : W.heap.size ≤ W'.heap.size) (hb : ∀ b, b < W.heap.size → W'.heap[b]? = W.heap[b]?) :
    s.post enc P f false true false false W args (.bool true) W' := by
  have hW' := hW
  obtain ⟨p, q, hA, hV, rfl, hfz, hnd⟩ := hW
  rw [hvars] at hV
  obtain ⟨rfl, rfl⟩ := trodVars_none hV
  have hlt : ∀ x ∈ p, x.block < W.heap.size := fun x hx => hW'.lt x (by simp [hx])
  refine ⟨ds, [], p ++ [], [], p, [], hW', ?_, ?_, ?_, ?_, fun h => by cases h⟩
  · rw [hspec, hres]
    exact trodAll_mk1 (shut_bool htb true)
  · rw [hspec]
    refine trodAll_stays hl _ _ _ _ hts hA (fun x hx => ?_) (fun x hx => by simpa using hlt x hx)
    have hbx := hb x.block (hlt x hx)
    cases x with
    | cell b o => exact World.cell?_of_block (w := W) hbx
    | map b => exact hbx
  · rw [hspec, hvars]; rfl
  · refine ⟨hst.1, hst.2, fun i hi => ?_⟩
    rw [hb i hi]
    split <;> simp_all

/-! ### At the call's beginning -/

/-- The memory at the call's beginning, seen through numbers: the package variables, and blocks of arguments that are only read. -/
theorem inv_start {G H0 : Heap} {W : World} {φ : Fi} (hro : ∀ i, (H0.get i).rw = false)
    (hobj : ∀ i, (H0.get i).live = true → ∃ b d sz o, φ i = some (b, d, sz) ∧ W.heap[b]? = some o ∧ Bears φ (H0.get i) d sz o) (hbnd : ∀ i b d sz, φ i = some (b, d, sz) → b < W.heap.size ∧ i < H0.next)
    (hglb : ∀ g, g < G.next → H0.get g = G.get g ∧ ∃ sz, φ g = some (g, 0, sz)) :
    Inv { F := fun _ => none, B := W.heap.size, old := fun b => W.heap[b]?, G := G } φ H0 W.heap where
  leB := Nat.le_refl _
  bnd := hbnd
  obj := hobj
  sep := fun i j b d sz d' sz' h _ _ _ => by rw [hro] at h; simp at h
  frn := fun b o h => by simp at h
  sepF := fun _ _ _ _ _ _ => rfl
  old := fun _ _ => rfl
  rwB := fun i b d sz h _ => by rw [hro] at h; simp at h
  glb := fun g hg => ⟨(hglb g hg).1, by rw [← (hglb g hg).1]; exact hro g, (hglb g hg).2⟩

/-- From a run of the evaluator to the row's contract. -/
theorem law_contract {P : Program} {pf : FuncId → Bool} {E : Env} (t : Tie P pf E) {H : Type} {enc : TypeId × Value → H} {f : FuncId} {fn : Func} {s : ChangeSpec} {W : World} {args : Array Value} {ds gs : List (DataW H)} {before : List MemPlace} {tb : TypeId}
    (hl : laidOutB P = true) (hts : fn.params.toList.all (fun t => P.readableRec t && decide (t < P.types.size)) = true) (hvars : s.vars = []) (hres : fn.resultTypes = #[tb]) (htb : P.underlying tb = some .bool)
    (hspec : (s.fn H (ds ++ gs)) = { results := [.lit (.bool true)], args := ds })
    (hW : DataW.Whole enc P fn.params.toList s.vars false W args.toList ds gs before) {n : Nat} {avs : List V} {H0 H' : Heap} {φ : Fi}
    (hinv : Inv { F := fun _ => none, B := W.heap.size, old := fun b => W.heap[b]?, G := E.glob } φ H0 W.heap) (hargs : VRs φ avs args.toList)
    (hcall : call E n f avs H0 = some (.bool true, H')) :
    Calls P f args W fun e W' => ∃ v, e = .returned v ∧ s.post enc P fn false true false false W args v W' := by
  obtain ⟨_, h2⟩ := call_good t n f avs H0 _ _ hcall _ φ W args rfl hinv hargs
  refine h2.mono ?_
  rintro e W' ⟨φ', v', rfl, _, hi, hst, hv⟩
  rw [hv.of_bool]
  exact ⟨_, rfl, law_post hl hts hvars hres htb hspec hW hst hi.leB hi.old⟩
/-! ### The sizes of strings -/
section
variable {H : Type} {enc : TypeId × Value → H} {P : Program} {w : World} {base : Nat} {spare : Nat → Bool} {held : Bool}
/-- Each string of the cells is weighed. -/
def Wd (cs : List Value) (ws : List Nat) : Prop := ∀ s : ByteArray, Value.string s ∈ cs → s.size ∈ ws
theorem Wd.append {a b : List Value} {x y : List Nat} (h : Wd a x) (k : Wd b y) : Wd (a ++ b) (x ++ y) := fun s hs => by
  rcases List.mem_append.1 hs with hs | hs
  · exact List.mem_append_left _ (h s hs)
  · exact List.mem_append_right _ (k s hs)
theorem fields_w {n m : Nat} {cs : List Value}
    (ih : ∀ (t : TypeId) (ls : List Lf) (c : List Value) (x : DataW H × List MemPlace), leaves P n t = some ls → DataW.trod enc P w base spare held m t c = some x → LfsOk ls c ∧ Wd c (x.1.weights P t)) :
    ∀ (fs : List Field) (xs : List (DataW H × List MemPlace)) (o : Nat) (ls : List Lf), leavesF P (leaves P n) o fs = some ls → xs.length = fs.length → o + ls.length = cs.length →
      (∀ (i : Nat) (f : Field), fs[i]? = some f → DataW.trod enc P w base spare held m f.type ((cs.drop f.offset).take (P.cellsOf f.type)) = xs[i]?) →
      Wd (cs.drop o) (DataW.weightsEach P (fs.map (·.type)) (xs.map (·.1)))
  | [], xs, o, ls, hl, hx, ho, h => by
    simp [leavesF] at hl; subst hl
    have : cs.drop o = [] := List.drop_eq_nil_of_le (by simp at ho; omega)
    rw [this]
    intro s hs; simp at hs
  | f :: fs, [], o, ls, hl, hx, ho, h => by simp at hx
  | f :: fs, x :: xs, o, ls, hl, hx, ho, h => by
    simp only [leavesF] at hl
    split at hl
    · rename_i l1 h1
      split at hl
      · rename_i hc
        obtain ⟨h2, h3⟩ := hc
        cases hr : leavesF P (leaves P n) (o + l1.length) fs with
        | none => rw [hr] at hl; simp at hl
        | some l2 =>
          rw [hr] at hl
          simp at hl; subst hl
          have h0 := h 0 f rfl
          simp only [List.getElem?_cons_zero] at h0
          obtain ⟨k1, k2⟩ := ih _ _ _ _ h1 h0
          rw [h2, h3] at k2
          simp at ho
          have k3 := fields_w (cs := cs) ih fs xs (o + l1.length) l2 hr (by simpa using hx) (by omega) (fun i g hg => by simpa using h (i + 1) g (by simpa using hg))
          have hd : cs.drop o = (cs.drop o).take l1.length ++ cs.drop (o + l1.length) := by
            rw [← List.drop_drop, List.take_append_drop]
          rw [hd]
          simp only [List.map_cons, DataW.weightsEach]
          exact k2.append k3
      · simp at hl
    · simp at hl
theorem array_w {m c : Nat} {e : TypeId} {cs : List Value} {l1 : List Lf} (hc : c = l1.length)
    (ih : ∀ (c : List Value) (x : DataW H × List MemPlace), DataW.trod enc P w base spare held m e c = some x → LfsOk l1 c ∧ Wd c (x.1.weights P e)) :
    ∀ (k i0 : Nat) (xs : List (DataW H × List MemPlace)), xs.length = k → (i0 + k) * c = cs.length → (∀ i, i < k → DataW.trod enc P w base spare held m e ((cs.drop ((i0 + i) * c)).take c) = xs[i]?) →
      Wd (cs.drop (i0 * c)) (DataW.weightsAll P e (xs.map (·.1)))
  | 0, i0, xs, hx, ho, h => by
    have : cs.drop (i0 * c) = [] := List.drop_eq_nil_of_le (by rw [← ho]; simp)
    rw [this]
    intro s hs; simp at hs
  | k + 1, i0, [], hx, ho, h => by simp at hx
  | k + 1, i0, x :: xs, hx, ho, h => by
    have h0 := h 0 (by omega)
    simp only [List.getElem?_cons_zero, Nat.add_zero] at h0
    obtain ⟨k1, k2⟩ := ih _ _ h0
    have k3 := array_w (cs := cs) hc ih k (i0 + 1) xs (by simpa using hx) (by rw [← ho]; congr 1; omega) (fun i hi => by
      have := h (i + 1) (by omega)
      rw [show i0 + (i + 1) = i0 + 1 + i by omega] at this
      simpa using this)
    have hd : cs.drop (i0 * c) = (cs.drop (i0 * c)).take c ++ cs.drop ((i0 + 1) * c) := by
      rw [show (i0 + 1) * c = i0 * c + c by rw [Nat.add_mul, Nat.one_mul], ← List.drop_drop, List.take_append_drop]
    rw [hd]
    simp only [List.map_cons, DataW.weightsAll]
    exact k2.append k3
theorem leaves_w : ∀ (n fuel : Nat) (t : TypeId) (ls : List Lf) (cs : List Value) (x : DataW H × List MemPlace), leaves P n t = some ls → DataW.trod enc P w base spare held fuel t cs = some x → LfsOk ls cs ∧ Wd cs (x.1.weights P t)
  | 0, _, t, ls, cs, x, h, _ => by simp [leaves] at h
  | n + 1, fuel, t, ls, cs, x, h, hx => by
    refine ⟨(leaves_flat (n + 1) fuel t ls cs x h hx).1, ?_⟩
    simp only [leaves] at h
    split at h
    · rename_i ht
      obtain ⟨b, rfl, rfl⟩ := DataW.trod_bool ht hx
      intro s hs; simp at hs
    · rename_i k ht
      obtain ⟨m, rfl, rfl, hw⟩ := DataW.trod_int ht hx
      intro s hs; simp at hs
    · rename_i ht
      obtain ⟨s, rfl, rfl, hw⟩ := DataW.trod_string ht hx
      intro s' hs
      simp only [List.mem_singleton, Value.string.injEq] at hs
      subst hs
      simp [DataW.weights]
    · rename_i fs ht
      split at h
      · rename_i l2 h2
        split at h
        · rename_i hc
          obtain ⟨xs, m, rfl, rfl, hlen, hxs, hf⟩ := DataW.trod_struct ht hx
          have k2 := fields_w (cs := cs) (fun t ls c x a b => leaves_w n m t ls c x a b) fs.toList xs 0 l2 h2 (by simpa using hxs) (by rw [hlen, hc]; simp) (fun i f hi => hf i f (by simpa using hi))
          simp only [List.drop_zero] at k2
          simpa [DataW.weights, ht] using k2
        · simp at h
      · simp at h
    · rename_i k e ht
      split at h
      · rename_i l1 h1
        split at h
        · rename_i hc
          obtain ⟨hc1, hc2⟩ := hc
          obtain ⟨xs, m, rfl, rfl, hlen, hxs, hf⟩ := DataW.trod_array ht hx
          have k2 := array_w (cs := cs) (e := e) (m := m) hc1 (fun c x b => leaves_w n m e l1 c x h1 b) k 0 xs hxs (by rw [hlen, hc2, hc1]; simp) (fun i hi => by simpa using hf i hi)
          simp only [Nat.zero_mul, List.drop_zero] at k2
          simpa [DataW.weights, ht] using k2
        · simp at h
      · simp at h
    · simp at h
theorem arg_w {n : Nat} {t : TypeId} {ls : List Lf} {v : Value} {d : DataW H} {ps : List MemPlace} (h : leaves P n t = some ls) (hd : DataW.Trod enc P w base spare held t v d ps) : Wd v.cells.toList (d.weights P t) := by
  obtain ⟨fuel, hf⟩ := hd
  exact (leaves_w n fuel t ls _ _ h hf).2
end
end Go.Ev
