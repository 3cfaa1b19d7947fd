/- A region whose order is open: whatever order comes, the evaluator's answer stands. -/
import Derived.Test.YtdalcnjdpfnjjaaGreatDoorEvS
set_option linter.unusedSimpArgs false
set_option linter.unusedVariables false
namespace Go.Ev
open Go

/-! ### Blocks that wait -/

theorem Inv.lessF {A : Around} {φ : Fi} {H : Heap} {hp : Array Go.Obj} {F' : Nat → Option Go.Obj} (v : Inv A φ H hp) (h : ∀ b, F' b = A.F b ∨ F' b = none) : Inv { A with F := F' } φ H hp where
  leB := v.leB
  bnd := v.bnd
  obj := v.obj
  sep := v.sep
  frn b o hb := by
    rcases h b with h | h
    · exact v.frn b o (by rw [← h]; exact hb)
    · simp only at hb; rw [h] at hb; simp at hb
  sepF i b d sz hl hφ := by
    rcases h b with h | h
    · simp only; rw [h]; exact v.sepF i b d sz hl hφ
    · exact h
  old := v.old
  rwB := v.rwB
  glb := v.glb

theorem Inv.pendAlloc {A : Around} {φ : Fi} {H : Heap} {hp : Array Go.Obj} (v : Inv A φ H hp) {nid : Nat} (hn : φ nid = none) (hlt : nid < H.next) (o' : Go.Obj) (sz : Nat) :
    Inv { A with F := fun b => if b = hp.size then some o' else A.F b } (φ.put nid hp.size 0 sz) H (hp.push o') := by
  have hle := Fi.le_put φ nid hp.size 0 sz hn
  have hold : ∀ i x, i ≠ nid → φ.put nid hp.size 0 sz i = some x → φ i = some x := fun i x hi e => by rwa [Fi.put_ne _ _ _ _ _ hi] at e
  have hdead : ∀ i, (H.get i).live = true → i ≠ nid := by
    intro i hl e
    subst e
    obtain ⟨b, d, s, o, h1, _⟩ := v.obj i hl
    rw [hn] at h1; simp at h1
  refine { leB := ?_, bnd := ?_, obj := ?_, sep := ?_, frn := ?_, sepF := ?_, old := ?_, rwB := ?_, glb := ?_ }
  · have := v.leB; simp; omega
  · intro i b d s e
    by_cases hi : i = nid
    · subst hi
      rw [Fi.put_same] at e
      simp at e
      simp; omega
    · have := v.bnd i b d s (hold i _ hi e)
      simp; omega
  · intro i hl
    obtain ⟨b, d, s, o, h1, h2, h3⟩ := v.obj i hl
    exact ⟨b, d, s, o, hle _ _ h1, by rw [push_old _ _ _ (v.bnd i b d s h1).1]; exact h2, h3.mono hle⟩
  · intro i j b d s d' s' hr hl h1 h2
    exact v.sep i j b d s d' s' hr hl (hold i _ (hdead i (Obj.rw_live hr)) h1) (hold j _ (hdead j hl) h2)
  · intro b o hb
    simp only at hb
    by_cases e : b = hp.size
    · rw [if_pos e] at hb; injection hb with hb; subst hb; rw [e]; exact push_new _ _
    · rw [if_neg e] at hb
      have h1 := v.frn b o hb
      rw [push_old _ _ _ (Array.getElem?_eq_some_iff.1 h1).1]; exact h1
  · intro i b d s hl h1
    have h1' := hold i _ (hdead i hl) h1
    have := (v.bnd i b d s h1').1
    have hne : b ≠ hp.size := by omega
    simp only [hne, if_false]
    exact v.sepF i b d s hl h1'
  · intro b hb
    simp only at hb
    rw [push_old _ _ _ (by have := v.leB; omega)]; exact v.old b hb
  · intro i b d s hr h1
    exact v.rwB i b d s hr (hold i _ (hdead i (Obj.rw_live hr)) h1)
  · intro g hg
    obtain ⟨h1, h2, s, h3⟩ := v.glb g hg
    exact ⟨h1, h2, s, hle _ _ h3⟩

theorem Inv.commit1 {A : Around} {φ : Fi} {H : Heap} {hp : Array Go.Obj} (v : Inv A φ H hp) {id b sz : Nat} {o' : Go.Obj} {x : Obj} (hφ : φ id = some (b, 0, sz)) (hF : A.F b = some o') (hB : A.B ≤ b) (hx : Bears φ x 0 sz o') (hid : A.G.next ≤ id) :
    Inv { A with F := fun b' => if b' = b then none else A.F b' } φ (H.set id x) hp := by
  have hnl : ∀ j d s, (H.get j).live = true → φ j ≠ some (b, d, s) := by
    intro j d s hl h
    rw [v.sepF j b d s hl h] at hF; simp at hF
  have get_ne : ∀ j, j ≠ id → (H.set id x).get j = H.get j := fun j hj => by rw [Heap.get_set, if_neg (fun e => hj e.symm)]
  have get_eq : (H.set id x).get id = x := by rw [Heap.get_set, if_pos rfl]
  refine { leB := v.leB, bnd := v.bnd, obj := ?_, sep := ?_, frn := ?_, sepF := ?_, old := v.old, rwB := ?_, glb := ?_ }
  · intro i hl
    by_cases hi : i = id
    · subst hi; rw [get_eq]; exact ⟨b, 0, sz, o', hφ, v.frn b o' hF, hx⟩
    · rw [get_ne i hi] at hl ⊢; exact v.obj i hl
  · intro i j b' d s d' s' hr hl h1 h2
    by_cases hi : i = id
    · by_cases hj : j = id
      · rw [hi, hj]
      · subst hi
        rw [get_ne j hj] at hl
        rw [hφ] at h1
        simp at h1
        obtain ⟨rfl, _⟩ := h1
        exact absurd h2 (hnl j d' s' hl)
    · rw [get_ne i hi] at hr
      by_cases hj : j = id
      · subst hj
        rw [hφ] at h2
        simp at h2
        obtain ⟨rfl, _⟩ := h2
        exact absurd h1 (hnl i d s (Obj.rw_live hr))
      · rw [get_ne j hj] at hl
        exact v.sep i j b' d s d' s' hr hl h1 h2
  · intro b' o hb
    simp only at hb
    split at hb
    · simp at hb
    · exact v.frn b' o hb
  · intro i b' d s hl h1
    by_cases hi : i = id
    · subst hi
      rw [hφ] at h1; simp at h1
      simp [h1.1.symm]
    · rw [get_ne i hi] at hl
      have := v.sepF i b' d s hl h1
      simp only
      split
      · rfl
      · exact this
  · intro i b' d s hr h1
    by_cases hi : i = id
    · subst hi
      rw [hφ] at h1; simp at h1
      rw [← h1.1]; exact hB
    · rw [get_ne i hi] at hr; exact v.rwB i b' d s hr h1
  · intro g hg
    obtain ⟨h1, h2, h3⟩ := v.glb g hg
    have hg' : g < A.G.next := hg
    exact ⟨by rw [get_ne g (by omega)]; exact h1, h2, h3⟩

theorem commit_next (k : Nat) : ∀ (pd : List (Nat × Nat × Obj)) (H : Heap), (commit k pd H).next = H.next
  | [], _ => rfl
  | (hi, id, b) :: r, H => by
    simp only [commit]
    split
    · rw [Heap.next_set]; exact commit_next k r H
    · exact commit_next k r H

/-- A block that waits: where it lies. -/
def Waits (A : Around) (F : Nat → Option Go.Obj) (φ : Fi) (id : Nat) (x : Obj) : Prop :=
  ∃ b sz o', φ id = some (b, 0, sz) ∧ F b = some o' ∧ A.F b = none ∧ A.B ≤ b ∧ Bears φ x 0 sz o' ∧ A.G.next ≤ id

theorem commit_inv {A : Around} {φ : Fi} {hp : Array Go.Obj} {k : Nat} : ∀ (pd : List (Nat × Nat × Obj)) (F : Nat → Option Go.Obj) (H : Heap), Inv { A with F := F } φ H hp → pd.Pairwise (fun x y => x.2.1 ≠ y.2.1) →
    (∀ x ∈ pd, x.1 = k → Waits A F φ x.2.1 x.2.2) →
    (∀ x ∈ pd, ∀ y ∈ pd, x.1 = k → y.1 = k → x.2.1 ≠ y.2.1 → ∀ b s b' s', φ x.2.1 = some (b, 0, s) → φ y.2.1 = some (b', 0, s') → b ≠ b') →
    ∃ F', (∀ b, F' b = F b ∨ (F' b = none ∧ ∃ x ∈ pd, x.1 = k ∧ ∃ s, φ x.2.1 = some (b, 0, s))) ∧ Inv { A with F := F' } φ (commit k pd H) hp
  | [], F, H, hv, _, _, _ => ⟨F, fun b => .inl rfl, hv⟩
  | (hi, id, x) :: r, F, H, hv, hp1, hw, hd => by
    obtain ⟨F', f1, f2⟩ := commit_inv r F H hv (List.Pairwise.of_cons hp1) (fun y hy => hw y (by simp [hy])) (fun y hy z hz => hd y (by simp [hy]) z (by simp [hz]))
    simp only [commit]
    by_cases hk : hi = k
    · rw [if_pos hk]
      obtain ⟨b, sz, o', w1, w2, w3, w4, w5, w6⟩ := hw (hi, id, x) (by simp) hk
      have hF' : F' b = some o' := by
        rcases f1 b with h | ⟨_, y, hy, hyk, s, hs⟩
        · rw [h]; exact w2
        · have hne : id ≠ y.2.1 := by
            have := List.rel_of_pairwise_cons hp1 hy
            exact this
          exact absurd rfl (hd (hi, id, x) (by simp) y (by simp [hy]) hk hyk hne b sz b s w1 hs)
      have := Inv.commit1 (A := { A with F := F' }) f2 w1 hF' w4 w5 w6
      refine ⟨fun b' => if b' = b then none else F' b', fun b' => ?_, this⟩
      by_cases hb : b' = b
      · right
        subst hb
        exact ⟨by simp, (hi, id, x), by simp, hk, sz, w1⟩
      · simp only [hb, if_false]
        rcases f1 b' with h | ⟨h, y, hy, hyk, hs⟩
        · exact .inl h
        · exact .inr ⟨h, y, by simp [hy], hyk, hs⟩
    · rw [if_neg hk]
      refine ⟨F', fun b' => ?_, f2⟩
      rcases f1 b' with h | ⟨h, y, hy, hyk, hs⟩
      · exact .inl h
      · exact .inr ⟨h, y, by simp [hy], hyk, hs⟩

/-! ### The places -/

theorem withPlaces_get (b : Array Nat) (louds : List Nat) : ∀ (l : List EOper) (i k : Nat), (withPlaces b louds l i)[k]? = l[k]?.map fun o => { o with lo := lastBefore (b.getD (i + k) 0) louds, hi := firstAfter b (i + k) louds, slot := i + k }
  | [], i, k => by simp [withPlaces]
  | o :: l, i, k => by
    cases k with
    | zero => simp [withPlaces]
    | succ k =>
      simp only [withPlaces, List.getElem?_cons_succ]
      rw [withPlaces_get b louds l (i + 1) k, show i + 1 + k = i + (k + 1) by omega]

theorem compPlain_get {P : Program} {pf : FuncId → Bool} {ops : Array Oper} : ∀ {rest : List Oper} {l : List EOper}, compPlain P pf ops rest = some l →
    l.length = rest.length ∧ ∀ (k : Nat) o, rest[k]? = some o → ∃ eo, l[k]? = some eo ∧ eo.dst = o.dst ∧ compOp P pf o.op = some eo.op ∧ compGuard ops o.guard = some eo.guard
  | [], l, h => by simp [compPlain] at h; subst h; exact ⟨rfl, fun k o h => by simp at h⟩
  | o :: rest, l, h => by
    simp only [compPlain] at h
    split at h
    · rename_i e g es h1 h2 h3
      injection h with h; subst h
      obtain ⟨k1, k2⟩ := compPlain_get h3
      refine ⟨by simp [k1], fun k o' hk => ?_⟩
      cases k with
      | zero => simp at hk; subst hk; exact ⟨_, rfl, rfl, h1, h2⟩
      | succ k => exact k2 k o' (by simpa using hk)
    · simp at h

theorem loudsOf_get : ∀ (l : List EOper) (i0 s i : Nat), (loudsOf l i0)[s]? = some i → ∃ k o, i = i0 + k ∧ l[k]? = some o ∧ o.op.loud = true ∧ lc l k = s
  | [], _, _, _, h => by simp [loudsOf] at h
  | o :: l, i0, s, i, h => by
    simp only [loudsOf] at h
    split at h
    · rename_i hl
      cases s with
      | zero => simp at h; subst h; exact ⟨0, o, rfl, rfl, hl, rfl⟩
      | succ s =>
        obtain ⟨k, o', h1, h2, h3, h4⟩ := loudsOf_get l (i0 + 1) s i (by simpa using h)
        exact ⟨k + 1, o', by omega, by simpa using h2, h3, by simp [lc, hl, h4]; omega⟩
    · rename_i hl
      obtain ⟨k, o', h1, h2, h3, h4⟩ := loudsOf_get l (i0 + 1) s i h
      exact ⟨k + 1, o', by omega, by simpa using h2, h3, by simp [lc, hl, h4]⟩
theorem loudsOf_mem : ∀ (l : List EOper) (i0 k : Nat) (o : EOper), l[k]? = some o → o.op.loud = true → (loudsOf l i0)[lc l k]? = some (i0 + k)
  | [], _, _, _, h, _ => by simp at h
  | o :: l, i0, k, o', h, hl => by
    cases k with
    | zero => simp at h; subst h; simp [loudsOf, hl, lc]
    | succ k =>
      have := loudsOf_mem l (i0 + 1) k o' (by simpa using h) hl
      simp only [loudsOf, lc]
      by_cases ho : o.op.loud = true
      · simp only [ho, if_true]
        rw [show 1 + lc l k = lc l k + 1 by omega, List.getElem?_cons_succ, this]
        congr 1; omega
      · simp only [ho, Bool.false_eq_true, if_false, Nat.zero_add]
        rw [this]; congr 1; omega
theorem loudsOf_len : ∀ (l : List EOper) (i0 : Nat), (loudsOf l i0).length = lc l l.length
  | [], _ => rfl
  | o :: l, i0 => by
    simp only [loudsOf, List.length_cons, lc]
    split
    · simp [loudsOf_len l (i0 + 1)]; omega
    · simp [loudsOf_len l (i0 + 1)]

theorem lastBefore_spec (s : Nat) : ∀ (louds : List Nat), 0 < lastBefore s louds → ∃ j, louds[lastBefore s louds - 1]? = some j ∧ s.testBit j = true
  | [], h => by simp [lastBefore] at h
  | j :: r, h => by
    simp only [lastBefore] at h ⊢
    split at h
    · rename_i h0
      split at h
      · rename_i hj
        exact ⟨j, by simp [h0, hj], hj⟩
      · omega
    · rename_i h0
      obtain ⟨j', h1, h2⟩ := lastBefore_spec s r (by omega)
      refine ⟨j', ?_, h2⟩
      rw [if_neg h0]
      rw [show lastBefore s r + 1 - 1 = (lastBefore s r - 1) + 1 by omega]
      simpa using h1
theorem firstAfter_spec (b : Array Nat) (i : Nat) : ∀ (louds : List Nat), firstAfter b i louds ≤ louds.length ∧ ∀ j, louds[firstAfter b i louds]? = some j → (b.getD j 0).testBit i = true
  | [] => ⟨Nat.le_refl _, fun j h => by simp [firstAfter] at h⟩
  | k :: r => by
    obtain ⟨h1, h2⟩ := firstAfter_spec b i r
    simp only [firstAfter]
    split
    · rename_i hk
      exact ⟨by simp, fun j h => by simp at h; subst h; exact hk⟩
    · refine ⟨by simp; omega, fun j h => h2 j (by simpa using h)⟩
theorem chain_spec (b : Array Nat) : ∀ (louds : List Nat), chainB b louds = true → ∀ k i j, louds[k]? = some i → louds[k + 1]? = some j → (b.getD j 0).testBit i = true
  | [], _, k, i, j, h, _ => by simp at h
  | [x], _, k, i, j, h1, h2 => by simp at h2
  | x :: y :: r, h, k, i, j, h1, h2 => by
    simp only [chainB, Bool.and_eq_true] at h
    cases k with
    | zero => simp at h1 h2; subst h1; subst h2; exact h.1
    | succ k => exact chain_spec b (y :: r) h.2 k i j (by simpa using h1) (by simpa using h2)

end Go.Ev
