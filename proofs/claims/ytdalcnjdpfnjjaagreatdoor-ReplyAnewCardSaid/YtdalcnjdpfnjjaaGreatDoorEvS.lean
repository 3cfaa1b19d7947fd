/- A region whose order is open: what the evaluator's run of it says. -/
import Derived.Test.YtdalcnjdpfnjjaaGreatDoorEvR
set_option linter.unusedSimpArgs false
set_option linter.unusedVariables false
namespace Go.Ev
open Go

/-- The frame behind those operations for which 'p' says so, in the order of the text. -/
def fold (val : Nat → V) (p : Nat → Bool) : List EOper → Nat → Fr → Fr
  | [], _, fr => fr
  | o :: r, i, fr => fold val p r (i + 1) (if p i then putA fr o.dst (val i) else fr)

theorem fold_congr {val val' : Nat → V} {p p' : Nat → Bool} : ∀ (l : List EOper) (i : Nat) (fr : Fr), (∀ j, i ≤ j → j < i + l.length → p j = p' j ∧ val j = val' j) → fold val p l i fr = fold val' p' l i fr
  | [], _, _, _ => rfl
  | o :: r, i, fr, h => by
    obtain ⟨h1, h2⟩ := h i (Nat.le_refl _) (by simp)
    simp only [fold, h1, h2]
    exact fold_congr r (i + 1) _ fun j h1 h2 => h j (by omega) (by simp; omega)
theorem fold_none {val : Nat → V} {p : Nat → Bool} : ∀ (l : List EOper) (i : Nat) (fr : Fr), (∀ j, i ≤ j → p j = false) → fold val p l i fr = fr
  | [], _, _, _ => rfl
  | o :: r, i, fr, h => by simp only [fold, h i (Nat.le_refl _), Bool.false_eq_true, if_false]; exact fold_none r (i + 1) fr fun j hj => h j (by omega)

theorem get_putA (fr : Fr) (d : Option Nat) (v : V) (t : Nat) : (putA fr d v).get t = if d = some t then some v else fr.get t := by
  cases d with
  | none => simp [putA]
  | some d => simp only [putA, T.get_set, Option.some.injEq]

/-- Two folds are the same at a temporary, if the same of its writers are in both. -/
theorem fold_get {val : Nat → V} {p q : Nat → Bool} (t : Nat) : ∀ (l : List EOper) (i : Nat) (fr fr2 : Fr), fr.get t = fr2.get t → (∀ k o, l[k]? = some o → o.dst = some t → p (i + k) = q (i + k)) →
    (fold val p l i fr).get t = (fold val q l i fr2).get t
  | [], _, _, _, h, _ => h
  | o :: r, i, fr, fr2, h, hw => by
    simp only [fold]
    refine fold_get t r (i + 1) _ _ ?_ (fun k o' hk hd => by have := hw (k + 1) o' (by simpa using hk) hd; rwa [show i + 1 + k = i + (k + 1) by omega])
    by_cases hd : o.dst = some t
    · have := hw 0 o rfl hd
      simp only [Nat.add_zero] at this
      rw [this]
      by_cases hq : q i = true
      · simp only [hq, if_true, get_putA, hd]
      · simp only [hq, Bool.false_eq_true, if_false]; exact h
    · have e1 : (if p i = true then putA fr o.dst (val i) else fr).get t = fr.get t := by
        split
        · rw [get_putA, if_neg hd]
        · rfl
      have e2 : (if q i = true then putA fr2 o.dst (val i) else fr2).get t = fr2.get t := by
        split
        · rw [get_putA, if_neg hd]
        · rfl
      rw [e1, e2]; exact h

/-- How many loud ones there are among the first k. -/
def lc : List EOper → Nat → Nat
  | [], _ => 0
  | _ :: _, 0 => 0
  | o :: r, k + 1 => (if o.op.loud then 1 else 0) + lc r k

/-- One more operation at the end of those for which 'p' says so, if no later writer of its place is among them. -/
theorem fold_add {val : Nat → V} {p q : Nat → Bool} (i : Nat) (oi : EOper) (t : Nat) : ∀ (l : List EOper) (i0 : Nat) (fr : Fr), i0 ≤ i → l[i - i0]? = some oi → (∀ j, i0 ≤ j → q j = (p j || j == i)) → p i = false →
    (∀ k o, l[k]? = some o → o.dst = some t → oi.dst = some t → p (i0 + k) = true → i0 + k < i) →
    (fold val q l i0 fr).get t = if oi.dst = some t then some (val i) else (fold val p l i0 fr).get t
  | [], i0, fr, h1, h2, _, _, _ => by simp at h2
  | o :: r, i0, fr, h1, h2, hq, hp, hw => by
    by_cases hi : i = i0
    · subst hi
      simp at h2
      subst h2
      have hqi : q i = true := by rw [hq i (Nat.le_refl _)]; simp
      simp only [fold, hqi, hp, if_true, Bool.false_eq_true, if_false]
      by_cases hd : o.dst = some t
      · rw [if_pos hd]
        have : (fold val q r (i + 1) (putA fr o.dst (val i))).get t = (fold val (fun _ => false) r (i + 1) (putA fr o.dst (val i))).get t := by
          refine fold_get t r (i + 1) _ _ rfl (fun k o' hk hd' => ?_)
          rw [hq _ (by omega)]
          have h3 : p (i + 1 + k) = false := by
            cases h4 : p (i + 1 + k) with
            | false => rfl
            | true => have := hw (k + 1) o' (by simpa using hk) hd' hd (by rw [show i + (k + 1) = i + 1 + k by omega]; exact h4); omega
          rw [h3]; simp; omega
        rw [this, fold_none _ _ _ (fun _ _ => rfl), get_putA, if_pos hd]
      · rw [if_neg hd]
        refine fold_get t r (i + 1) _ _ (by rw [get_putA, if_neg hd]) (fun k o' hk hd' => ?_)
        rw [hq _ (by omega)]
        have : (i + 1 + k == i) = false := by simp; omega
        rw [this, Bool.or_false]
    · have hqi : q i0 = p i0 := by
        rw [hq i0 (Nat.le_refl _)]
        have : (i0 == i) = false := by simp; omega
        rw [this, Bool.or_false]
      simp only [fold, hqi]
      refine fold_add i oi t r (i0 + 1) _ (by omega) ?_ (fun j hj => hq j (by omega)) hp (fun k o' hk hd hdi hpk => ?_)
      · rw [show i - i0 = (i - (i0 + 1)) + 1 by omega] at h2; simpa using h2
      · have := hw (k + 1) o' (by simpa using hk) hd hdi (by rw [show i0 + (k + 1) = i0 + 1 + k by omega]; exact hpk)
        omega

/-- What a list of new blocks may hold. -/
def PendOk (l : List EOper) (base i0 : Nat) (ob : Nat → Option Obj) (pend pd : List (Nat × Nat × Obj)) : Prop :=
  (∀ x ∈ pd, x ∈ pend ∨ ∃ k o, l[k]? = some o ∧ o.op.loud = false ∧ x.1 = o.hi ∧ x.2.1 = base + (i0 + k) ∧ ob (i0 + k) = some x.2.2) ∧ pd.Pairwise (fun x y => x.2.1 ≠ y.2.1)

structure Facts (cf : FuncId → List V → Heap → Option (V × Heap)) (pu : FuncId → List V → Option V) (base : Nat) (l : List EOper) (i0 : Nat) (fr : Fr) (m : Nat) (pend : List (Nat × Nat × Obj)) (watch : List Rec)
    (fr' : Fr) (H' : Heap) (val : Nat → V) (ob : Nat → Option Obj) (hp : Nat → Heap) : Prop where
  fin : fr' = fold val (fun _ => true) l i0 fr
  watch : ∀ c ∈ watch, ∀ s, m < s → s ≤ m + lc l l.length → s ≤ c.hi → qop' pu c.op c.fr (hp s) c.nid = some (c.v, c.b)
  skip : ∀ k o, l[k]? = some o → wantedA o (fold val (fun j => decide (j < i0 + k)) l i0 fr) = false → val (i0 + k) = V.undef ∧ ob (i0 + k) = none
  noob : ∀ k o, l[k]? = some o → o.op.loud = true → ob (i0 + k) = none
  quiet : ∀ k o, l[k]? = some o → o.op.loud = false → wantedA o (fold val (fun j => decide (j < i0 + k)) l i0 fr) = true → ∀ s, o.lo ≤ s → s ≤ o.hi → s ≤ m + lc l l.length →
    qop' pu o.op (fold val (fun j => decide (j < i0 + k)) l i0 fr) (hp s) (base + (i0 + k)) = some (val (i0 + k), ob (i0 + k))
  loud : ∀ k o, l[k]? = some o → o.op.loud = true → ∃ pd, PendOk l base i0 ob pend pd ∧
    (wantedA o (fold val (fun j => decide (j < i0 + k)) l i0 fr) = true → lop cf o.op (fold val (fun j => decide (j < i0 + k)) l i0 fr) (commit (m + lc l k) pd (hp (m + lc l k))) = some (val (i0 + k), hp (m + lc l k + 1))) ∧
    (wantedA o (fold val (fun j => decide (j < i0 + k)) l i0 fr) = false → hp (m + lc l k + 1) = commit (m + lc l k) pd (hp (m + lc l k)))
  last : ∃ pd, PendOk l base i0 ob pend pd ∧ H' = commit (m + lc l l.length) pd (hp (m + lc l l.length))

theorem PendOk.cons {l : List EOper} {o : EOper} {base i0 : Nat} {ob ob' : Nat → Option Obj} {pend pd : List (Nat × Nat × Obj)} (h : PendOk l base (i0 + 1) ob' pend pd) (ho : ∀ j, i0 < j → ob j = ob' j) : PendOk (o :: l) base i0 ob pend pd := by
  refine ⟨fun x hx => ?_, h.2⟩
  rcases h.1 x hx with h1 | ⟨k, o', h1, h2, h3, h4, h5⟩
  · exact .inl h1
  · exact .inr ⟨k + 1, o', by simpa using h1, h2, h3, by rw [h4]; omega, by rw [ho _ (by omega), show i0 + (k + 1) = i0 + 1 + k by omega]; exact h5⟩
theorem PendOk.cons' {l : List EOper} {o : EOper} {base i0 : Nat} {ob ob' : Nat → Option Obj} {pend pd : List (Nat × Nat × Obj)} {b : Obj} (h : PendOk l base (i0 + 1) ob' ((o.hi, base + i0, b) :: pend) pd) (ho : ∀ j, i0 < j → ob j = ob' j)
    (hl : o.op.loud = false) (hb : ob i0 = some b) : PendOk (o :: l) base i0 ob pend pd := by
  refine ⟨fun x hx => ?_, h.2⟩
  rcases h.1 x hx with h1 | ⟨k, o', h1, h2, h3, h4, h5⟩
  · rcases List.mem_cons.1 h1 with rfl | h1
    · exact .inr ⟨0, o, rfl, hl, rfl, rfl, hb⟩
    · exact .inl h1
  · exact .inr ⟨k + 1, o', by simpa using h1, h2, h3, by rw [h4]; omega, by rw [ho _ (by omega), show i0 + (k + 1) = i0 + 1 + k by omega]; exact h5⟩

theorem lc_cons_loud {o : EOper} {l : List EOper} (h : o.op.loud = true) (k m : Nat) : m + lc (o :: l) (k + 1) = m + 1 + lc l k := by simp [lc, h]; omega
theorem lc_cons_quiet {o : EOper} {l : List EOper} (h : o.op.loud = false) (k m : Nat) : m + lc (o :: l) (k + 1) = m + lc l k := by simp [lc, h]
theorem lc_zero (l : List EOper) : lc l 0 = 0 := by cases l <;> rfl

theorem frame_zero {val : Nat → V} {l : List EOper} {i0 : Nat} {fr : Fr} : fold val (fun j => decide (j < i0 + 0)) l i0 fr = fr :=
  fold_none _ _ _ fun j hj => by simp; omega
theorem frame_succ {val val' : Nat → V} {o : EOper} {l : List EOper} {i0 k : Nat} {fr : Fr} (hv : ∀ j, i0 < j → val j = val' j) :
    fold val (fun j => decide (j < i0 + (k + 1))) (o :: l) i0 fr = fold val' (fun j => decide (j < i0 + 1 + k)) l (i0 + 1) (putA fr o.dst (val i0)) := by
  have : decide (i0 < i0 + (k + 1)) = true := by simp
  simp only [fold, this, if_true]
  exact fold_congr l (i0 + 1) _ fun j h1 _ => ⟨by rw [show i0 + (k + 1) = i0 + 1 + k by omega], hv j (by omega)⟩

/-- One operation ahead: the facts of all that follow, and what is so of it. -/
theorem Facts.step {cf : FuncId → List V → Heap → Option (V × Heap)} {pu : FuncId → List V → Option V} {base : Nat} {o : EOper} {l : List EOper} {i0 : Nat} {fr : Fr} {m m' : Nat} {pend pend' : List (Nat × Nat × Obj)} {watch watch' : List Rec}
    {fr' : Fr} {H' : Heap} {val' : Nat → V} {ob' : Nat → Option Obj} {hp : Nat → Heap} {v : V} {b : Option Obj}
    (f : Facts cf pu base l (i0 + 1) (putA fr o.dst v) m' pend' watch' fr' H' val' ob' hp)
    (hm : m' = m + (if o.op.loud then 1 else 0)) (hw : ∀ c ∈ watch, c ∈ watch')
    (hwl : o.op.loud = true → ∀ c ∈ watch, m < c.hi → qop' pu c.op c.fr (hp (m + 1)) c.nid = some (c.v, c.b))
    (hpend : ∀ (ob : Nat → Option Obj) (pd : List (Nat × Nat × Obj)), (∀ j, i0 < j → ob j = ob' j) → ob i0 = b → PendOk l base (i0 + 1) ob' pend' pd → PendOk (o :: l) base i0 ob pend pd)
    (hskip : wantedA o fr = false → v = V.undef ∧ b = none) (hnoob : o.op.loud = true → b = none)
    (hquiet : o.op.loud = false → wantedA o fr = true → ∀ s, o.lo ≤ s → s ≤ o.hi → s ≤ m' + lc l l.length → qop' pu o.op fr (hp s) (base + i0) = some (v, b))
    (hloud : o.op.loud = true → ∃ pd, (∀ ob : Nat → Option Obj, PendOk (o :: l) base i0 ob pend pd) ∧ (wantedA o fr = true → lop cf o.op fr (commit m pd (hp m)) = some (v, hp (m + 1))) ∧ (wantedA o fr = false → hp (m + 1) = commit m pd (hp m))) :
    ∃ val ob, Facts cf pu base (o :: l) i0 fr m pend watch fr' H' val ob hp := by
  let val : Nat → V := fun j => if j = i0 then v else val' j
  let ob : Nat → Option Obj := fun j => if j = i0 then b else ob' j
  have hv : ∀ j, i0 < j → val j = val' j := fun j hj => by simp [val]; omega
  have hb : ∀ j, i0 < j → ob j = ob' j := fun j hj => by simp [ob]; omega
  have hv0 : val i0 = v := by simp [val]
  have hb0 : ob i0 = b := by simp [ob]
  have hlc : ∀ k, m + lc (o :: l) (k + 1) = m' + lc l k := by
    intro k
    cases h : o.op.loud with
    | true => rw [lc_cons_loud h, hm, h]; rfl
    | false => rw [lc_cons_quiet h, hm, h]; rfl
  have hlen : m + lc (o :: l) (o :: l).length = m' + lc l l.length := hlc l.length
  have fk : ∀ k, fold val (fun j => decide (j < i0 + (k + 1))) (o :: l) i0 fr = fold val' (fun j => decide (j < i0 + 1 + k)) l (i0 + 1) (putA fr o.dst v) := fun k => by rw [frame_succ hv, hv0]
  refine ⟨val, ob, { fin := ?_, watch := ?_, skip := ?_, noob := ?_, quiet := ?_, loud := ?_, last := ?_ }⟩
  · rw [f.fin]
    simp only [fold, if_true, hv0]
    exact (fold_congr l (i0 + 1) _ fun j h1 _ => ⟨rfl, hv j (by omega)⟩).symm
  · intro c hc s h1 h2 h3
    rw [hlen] at h2
    by_cases hl : o.op.loud = true
    · have hm' : m' = m + 1 := by rw [hm, hl]; rfl
      by_cases hs : s = m + 1
      · subst hs; exact hwl hl c hc (by omega)
      · exact f.watch c (hw c hc) s (by omega) h2 h3
    · have hm' : m' = m := by rw [hm]; simp [hl]
      exact f.watch c (hw c hc) s (by omega) h2 h3
  · intro k o' hk
    cases k with
    | zero =>
      simp at hk; subst hk
      rw [frame_zero]
      intro h
      simp only [Nat.add_zero, hv0, hb0]
      exact hskip h
    | succ k =>
      rw [fk k]
      intro h
      have := f.skip k o' (by simpa using hk) h
      rw [show i0 + (k + 1) = i0 + 1 + k by omega, hv _ (by omega), hb _ (by omega)]
      exact this
  · intro k o' hk hl
    cases k with
    | zero => simp at hk; subst hk; simp only [Nat.add_zero, hb0]; exact hnoob hl
    | succ k =>
      rw [show i0 + (k + 1) = i0 + 1 + k by omega, hb _ (by omega)]
      exact f.noob k o' (by simpa using hk) hl
  · intro k o' hk hl
    cases k with
    | zero =>
      simp at hk; subst hk
      rw [frame_zero]
      intro h s h1 h2 h3
      simp only [Nat.add_zero, hv0, hb0]
      rw [hlen] at h3
      exact hquiet hl h s h1 h2 h3
    | succ k =>
      rw [fk k]
      intro h s h1 h2 h3
      rw [hlen] at h3
      have := f.quiet k o' (by simpa using hk) hl h s h1 h2 h3
      rw [show i0 + (k + 1) = i0 + 1 + k by omega, hv _ (by omega), hb _ (by omega)]
      exact this
  · intro k o' hk hl
    cases k with
    | zero =>
      simp at hk; subst hk
      rw [frame_zero]
      obtain ⟨pd, p1, p2, p3⟩ := hloud hl
      refine ⟨pd, p1 ob, ?_, ?_⟩
      · rw [lc_zero]; simp only [Nat.add_zero, hv0]; exact p2
      · rw [lc_zero]; simp only [Nat.add_zero]; exact p3
    | succ k =>
      rw [fk k, hlc k]
      obtain ⟨pd, p1, p2, p3⟩ := f.loud k o' (by simpa using hk) hl
      refine ⟨pd, hpend ob pd hb hb0 p1, ?_, p3⟩
      intro h
      rw [show i0 + (k + 1) = i0 + 1 + k by omega, hv _ (by omega)]
      exact p2 h
  · obtain ⟨pd, p1, p2⟩ := f.last
    exact ⟨pd, hpend ob pd hb hb0 p1, by rw [hlen]; exact p2⟩

theorem runDraw_facts {cf : FuncId → List V → Heap → Option (V × Heap)} {pu : FuncId → List V → Option V} {base : Nat} {fr' : Fr} {H' : Heap} : ∀ (l : List EOper) (i0 : Nat) (fr : Fr) (H : Heap) (Hs : List Heap) (m : Nat) (pend : List (Nat × Nat × Obj)) (watch : List Rec),
    runDraw cf pu base l fr H Hs m pend watch = some (fr', H') → Hs.length = m → (∀ k o, l[k]? = some o → o.slot = i0 + k) → pend.Pairwise (fun x y => x.2.1 ≠ y.2.1) → (∀ x ∈ pend, x.2.1 < base + i0) →
    ∃ (val : Nat → V) (ob : Nat → Option Obj) (hp : Nat → Heap), hp m = H ∧ (∀ k, k < m → Hs[m - 1 - k]? = some (hp k)) ∧ Facts cf pu base l i0 fr m pend watch fr' H' val ob hp
  | [], i0, fr, H, Hs, m, pend, watch, h, hl, _, hpw, _ => by
    simp [runDraw] at h
    obtain ⟨rfl, rfl⟩ := h
    refine ⟨fun _ => V.undef, fun _ => none, fun k => if k < m then (Hs[m - 1 - k]?).getD H else H, by simp, fun k hk => ?_, ?_⟩
    · simp only [hk, if_true]
      rw [List.getElem?_eq_getElem (by omega)]; rfl
    · refine { fin := rfl, watch := fun c _ s h1 h2 => by simp [lc] at h2; omega, skip := fun k o hk => by simp at hk, noob := fun k o hk => by simp at hk, quiet := fun k o hk => by simp at hk, loud := fun k o hk => by simp at hk,
               last := ⟨pend, ⟨fun x hx => .inl hx, hpw⟩, by simp [lc]⟩ }
  | o :: l, i0, fr, H, Hs, m, pend, watch, h, hlen, hslot, hpw, hpb => by
    have hslot0 : o.slot = i0 := by simpa using hslot 0 o rfl
    have hslot' : ∀ k o', l[k]? = some o' → o'.slot = i0 + 1 + k := fun k o' hk => by have := hslot (k + 1) o' (by simpa using hk); omega
    have hpb' : ∀ x ∈ pend, x.2.1 < base + (i0 + 1) := fun x hx => by have := hpb x hx; omega
    simp only [runDraw] at h
    split at h
    · -- loud
      rename_i hl
      split at h
      · rename_i v H1 hlop
        split at h
        · rename_i hwatch
          obtain ⟨val', ob', hp, q1, q2, f⟩ := runDraw_facts l (i0 + 1) (putA fr o.dst v) H1 (H :: Hs) (m + 1) pend watch h (by simp [hlen]) hslot' hpw hpb'
          have hpm : hp m = H := by
            have := q2 m (by omega)
            simp at this; exact this.symm
          have hps : ∀ k, k < m → Hs[m - 1 - k]? = some (hp k) := by
            intro k hk
            have := q2 k (by omega)
            rw [show m + 1 - 1 - k = (m - 1 - k) + 1 by omega] at this
            simpa using this
          have hskipv : wantedA o fr = false → v = V.undef ∧ commit m pend H = H1 := by
            intro h0
            rw [h0] at hlop
            simp at hlop
            exact ⟨hlop.1.symm, hlop.2⟩
          obtain ⟨val, ob, ff⟩ := f.step (o := o) (m := m) (watch := watch) (pend := pend) (b := none) (by simp [hl]) (fun c hc => hc)
            (fun _ c hc hlt => by
              have := List.all_eq_true.1 hwatch c hc
              simp only [Bool.or_eq_true, decide_eq_true_eq] at this
              rcases this with h1 | h1
              · omega
              · rw [q1]; exact okAt_sound h1)
            (fun ob pd h1 h2 h3 => h3.cons h1)
            (fun h0 => ⟨(hskipv h0).1, rfl⟩) (fun _ => rfl) (fun h0 => by rw [hl] at h0; simp at h0)
            (fun _ => ⟨pend, fun ob => ⟨fun x hx => .inl hx, hpw⟩, fun h0 => by rw [hpm, q1]; simpa [h0] using hlop, fun h0 => by rw [hpm, q1]; exact (hskipv h0).2.symm⟩)
          exact ⟨val, ob, hp, hpm, hps, ff⟩
        · simp at h
      · simp at h
    · rename_i hl
      have hl' : o.op.loud = false := by simpa using hl
      split at h
      · -- quiet
        rename_i hwant
        split at h
        · rename_i v b hq
          rw [hslot0] at h hq
          split at h
          · rename_i hall
            have hpw' : List.Pairwise (fun (x y : Nat × Nat × Obj) => x.2.1 ≠ y.2.1) (addPend o.hi (base + i0) b pend) := by
              cases b with
              | none => exact hpw
              | some b => exact List.Pairwise.cons (fun x hx => by have := hpb x hx; simp; omega) hpw
            have hpb2 : ∀ x ∈ addPend o.hi (base + i0) b pend, x.2.1 < base + (i0 + 1) := by
              cases b with
              | none => exact hpb'
              | some b =>
                intro x hx
                rcases List.mem_cons.1 hx with rfl | hx
                · simp
                · exact hpb' x hx
            obtain ⟨val', ob', hp, q1, q2, f⟩ := runDraw_facts l (i0 + 1) (putA fr o.dst v) H Hs m _ _ h hlen hslot' hpw' hpb2
            obtain ⟨val, ob, ff⟩ := f.step (o := o) (m := m) (watch := watch) (pend := pend) (b := b) (by simp [hl'])
              (fun c hc => by split <;> simp [hc])
              (fun h0 => by rw [hl'] at h0; simp at h0)
              (fun ob pd h1 h2 h3 => by
                cases b with
                | none => exact h3.cons h1
                | some b => exact h3.cons' h1 hl' h2)
              (fun h0 => by rw [hwant] at h0; simp at h0) (fun h0 => by rw [hl'] at h0; simp at h0)
              (fun _ _ s h1 h2 h3 => by
                by_cases hs : s < m
                · have hget := q2 s hs
                  have hin : Hs[m - 1 - s]? = some (hp s) := hget
                  have hmem : hp s ∈ Hs.take (m - o.lo) := by
                    refine List.mem_of_getElem? (i := m - 1 - s) ?_
                    rw [List.getElem?_take, if_pos (by omega)]; exact hin
                  exact okAt_sound (List.all_eq_true.1 hall _ hmem)
                · by_cases hs2 : s = m
                  · subst hs2; rw [q1]; exact hq
                  · have hmh : m < o.hi := by omega
                    have := f.watch { op := o.op, fr := fr, v := v, b := b, hi := o.hi, nid := base + i0 } (by rw [if_pos hmh]; simp) s (by omega) h3 h2
                    exact this)
              (fun h0 => by rw [hl'] at h0; simp at h0)
            exact ⟨val, ob, hp, q1, q2, ff⟩
          · simp at h
        · simp at h
      · -- not wanted
        rename_i hwant
        have hwant' : wantedA o fr = false := by simpa using hwant
        obtain ⟨val', ob', hp, q1, q2, f⟩ := runDraw_facts l (i0 + 1) (putA fr o.dst V.undef) H Hs m pend watch h hlen hslot' hpw hpb'
        obtain ⟨val, ob, ff⟩ := f.step (o := o) (m := m) (watch := watch) (pend := pend) (b := none) (by simp [hl']) (fun c hc => hc)
          (fun h0 => by rw [hl'] at h0; simp at h0) (fun ob pd h1 h2 h3 => h3.cons h1)
          (fun _ => ⟨rfl, rfl⟩) (fun _ => rfl) (fun _ h0 => by rw [hwant'] at h0; simp at h0)
          (fun h0 => by rw [hl'] at h0; simp at h0)
        exact ⟨val, ob, hp, q1, q2, ff⟩

end Go.Ev
