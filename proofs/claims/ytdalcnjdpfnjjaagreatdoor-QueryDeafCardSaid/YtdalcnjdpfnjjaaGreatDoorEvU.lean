/- A region whose order is open: in every order the run comes to what the evaluator has. -/
import Derived.Test.YtdalcnjdpfnjjaaGreatDoorEvT
set_option linter.unusedSimpArgs false
set_option linter.unusedVariables false
namespace Go.Ev
open Go

/-- What the evaluator knows of the operations of a region. -/
structure Plan (P : Program) (pf : FuncId → Bool) (ops : Array Oper) (l : List EOper) (nt : Nat) : Prop where
  len : l.length = ops.size
  get : ∀ (k : Nat) o, ops[k]? = some o → ∃ eo, l[k]? = some eo ∧ eo.dst = o.dst ∧ compOp P pf o.op = some eo.op ∧ compGuard ops o.guard = some eo.guard ∧
    eo.lo = lastBefore ((Region.before ops).getD k 0) (loudsOf l 0) ∧ eo.hi = firstAfter (Region.before ops) k (loudsOf l 0) ∧ ∀ d, o.dst = some d → d < nt
  chain : chainB (Region.before ops) (loudsOf l 0) = true
  temps : ∀ (i j : Nat) oi oj t, l[i]? = some oi → l[j]? = some oj → oj.dst = some t → t ∈ oi.names → i ≠ j → ((Region.before ops).getD (max i j) 0).testBit (min i j) = true
  edges : ∀ (i : Nat) o, ops[i]? = some o → ∀ e ∈ o.after, Region.binds .any e = true → e.on < i

theorem Plan.getE {P : Program} {pf : FuncId → Bool} {ops : Array Oper} {l : List EOper} {nt : Nat} (p : Plan P pf ops l nt) {k : Nat} {eo : EOper} (h : l[k]? = some eo) : ∃ o, ops[k]? = some o := by
  have : k < l.length := (List.getElem?_eq_some_iff.1 h).1
  rw [p.len] at this
  exact ⟨_, Array.getElem?_eq_getElem this⟩

/-! ### From 'comp' -/

theorem loudsOf_places (b : Array Nat) (ls : List Nat) : ∀ (l : List EOper) (i i0 : Nat), loudsOf (withPlaces b ls l i) i0 = loudsOf l i0
  | [], _, _ => rfl
  | o :: l, i, i0 => by simp only [withPlaces, loudsOf, loudsOf_places b ls l (i + 1) (i0 + 1)]

theorem len_places (b : Array Nat) (ls : List Nat) : ∀ (l : List EOper) (i : Nat), (withPlaces b ls l i).length = l.length
  | [], _ => rfl
  | o :: l, i => by simp only [withPlaces, List.length_cons, len_places b ls l (i + 1)]

theorem fitsL_get {nt : Nat} : ∀ {l : List EOper}, fitsL nt l = true → ∀ (k : Nat) eo, l[k]? = some eo → ∀ d, eo.dst = some d → d < nt
  | [], _, k, eo, h, _, _ => by simp at h
  | o :: l, hf, k, eo, h, d, hd => by
    simp only [fitsL, Bool.and_eq_true] at hf
    cases k with
    | zero => simp at h; subst h; rw [hd] at hf; simpa using hf.1
    | succ k => exact fitsL_get hf.2 k eo (by simpa using h) d hd

theorem plan_of {P : Program} {pf : FuncId → Bool} {ops : Array Oper} {l0 : List EOper} {nt : Nat} (h0 : compPlain P pf ops ops.toList = some l0) (h1 : chainB (Region.before ops) (loudsOf l0 0) = true)
    (h2 : tempsOk (Region.before ops) l0 = true) (h3 : edgesOk ops = true) (hf : fitsL nt (withPlaces (Region.before ops) (loudsOf l0 0) l0 0) = true) :
    Plan P pf ops (withPlaces (Region.before ops) (loudsOf l0 0) l0 0) nt := by
  obtain ⟨k1, k2⟩ := compPlain_get h0
  have hl := loudsOf_places (Region.before ops) (loudsOf l0 0) l0 0 0
  have hg := withPlaces_get (Region.before ops) (loudsOf l0 0) l0 0
  refine { len := ?_, get := ?_, chain := ?_, temps := ?_, edges := ?_ }
  · rw [len_places, k1]; simp
  · intro k o ho
    obtain ⟨eo, e1, e2, e3, e4⟩ := k2 k o (by simpa using ho)
    have hgk := hg k
    rw [e1] at hgk
    simp only [Option.map_some, Nat.zero_add] at hgk
    refine ⟨_, hgk, e2, e3, e4, by rw [hl], by rw [hl], fun d hd => ?_⟩
    exact fitsL_get hf k _ hgk d (by rw [← hd]; exact e2)
  · rw [hl]; exact h1
  · intro i j oi oj t hi hj hd ht hne
    rw [hg i] at hi
    rw [hg j] at hj
    simp only [Nat.zero_add] at hi hj
    obtain ⟨oi0, i1, i2⟩ := Option.map_eq_some_iff.1 hi
    obtain ⟨oj0, j1, j2⟩ := Option.map_eq_some_iff.1 hj
    subst i2; subst j2
    have ht' : t ∈ oi0.names := ht
    unfold tempsOk at h2
    rw [List.all_eq_true] at h2
    have a1 := h2 (oi0, i) (by rw [List.mem_zipIdx_iff_getElem?]; exact i1)
    rw [List.all_eq_true] at a1
    have a2 := a1 (oj0, j) (by rw [List.mem_zipIdx_iff_getElem?]; exact j1)
    have hd' : oj0.dst = some t := hd
    simp only [hd'] at a2
    have hne' : (i == j) = false := by simp [hne]
    have hc : (oi0.names.contains t) = true := by simp [ht']
    rw [hne', hc] at a2
    simpa using a2
  · intro i o ho e he hb
    unfold edgesOk at h3
    rw [List.all_eq_true] at h3
    have a1 := h3 (o, i) (by rw [List.mem_zipIdx_iff_getElem?]; simpa using ho)
    simp only at a1
    rw [Array.all_eq_true_iff_forall_mem] at a1
    have a2 := a1 e he
    rw [hb] at a2
    simpa using a2

/-! ### The state between two operations -/

theorem FR.of_get {φ : Fi} {nt : Nat} {fr fr2 : Fr} {tmps : Array Value} (h : ∀ t, fr2.get t = fr.get t) (r : FR φ nt fr tmps) : FR φ nt fr2 tmps :=
  ⟨r.size, fun t => by rw [h t]; exact r.val t⟩

theorem Inv.skip {A : Around} {φ : Fi} {H : Heap} {hp : Array Go.Obj} (v : Inv A φ H hp) (k : Nat) : Inv A φ (H.skip k) hp where
  leB := v.leB
  bnd i b d sz h := ⟨(v.bnd i b d sz h).1, by have := (v.bnd i b d sz h).2; simp only [Heap.skip]; omega⟩
  obj := v.obj
  sep := v.sep
  frn := v.frn
  sepF := v.sepF
  old := v.old
  rwB := v.rwB
  glb := v.glb

theorem Inv.gle {A : Around} {φ : Fi} {H : Heap} {hp : Array Go.Obj} (v : Inv A φ H hp) : A.G.next ≤ H.next := by
  rcases Nat.eq_zero_or_pos A.G.next with h | h
  · omega
  · obtain ⟨_, _, sz, h3⟩ := v.glb (A.G.next - 1) (by omega)
    have := (v.bnd _ _ _ _ h3).2
    omega

structure Mid (A : Around) (φ : Fi) (base n nt : Nat) (l : List EOper) (fr0 : Fr) (val : Nat → V) (ob : Nat → Option Obj) (hp : Nat → Heap) (listed : Array Bool) (m : Nat) (a : Act) (w : World) (φ' : Fi) (F' : Nat → Option Go.Obj) : Prop where
  next : base + n ≤ (hp m).next
  low : ∀ i, i < base → φ' i = φ i
  less : ∀ b, F' b = A.F b ∨ A.F b = none
  inv : Inv { A with F := F' } φ' (hp m) w.heap
  waits : ∀ (j : Nat) oj x, l[j]? = some oj → ob j = some x → listed.getD j false = true → m ≤ oj.hi → Waits A F' φ' (base + j) x
  dist : ∀ j k b s b' s', j < n → k < n → j ≠ k → φ' (base + j) = some (b, 0, s) → φ' (base + k) = some (b', 0, s') → b ≠ b'
  unl : ∀ j, j < n → listed.getD j false = false → φ' (base + j) = none
  fr : FR φ' nt (fold val (fun j => listed.getD j false) l 0 fr0) a.tmps

structure Rst (A : Around) (w0 : World) (φ : Fi) (base nt : Nat) (ops : Array Oper) (l : List EOper) (fr0 : Fr) (val : Nat → V) (ob : Nat → Option Obj) (hp : Nat → Heap) (listed : Array Bool) (m : Nat) (a : Act) (w : World) : Prop where
  size : listed.size = ops.size
  closed : Closed ops listed
  stage : ∀ s i, (loudsOf l 0)[s]? = some i → (listed.getD i false = true ↔ s < m)
  mle : m ≤ (loudsOf l 0).length
  defers : a.defers = []
  still : Still w0 w
  mid : ∃ φ' F', Mid A φ base ops.size nt l fr0 val ob hp listed m a w φ' F'

section
variable {P : Program} {w w0 : World} {A : Around} {φ : Fi} {H H' : Heap} {nt : Nat} {fr0 fr' : Fr} {a : Act} {pf : FuncId → Bool} {E : Env} {ops : Array Oper} {l : List EOper} {base : Nat}
  {val : Nat → V} {ob : Nat → Option Obj} {hp : Nat → Heap} {listed : Array Bool} {m : Nat}
  {cf : FuncId → List V → Heap → Option (V × Heap)} {pu : FuncId → List V → Option V} {Q : Exit → Act → World → Prop}

theorem closed_set {i : Nat} {o : Oper} (hc : Closed ops listed) (ho : ops[i]? = some o) (hall : ∀ e ∈ o.after, Region.binds .any e = true → listed.getD e.on false = true) :
    Closed ops (listed.setIfInBounds i true) := by
  intro j oj hj hl e he hb
  by_cases hji : j = i
  · subst hji
    rw [ho] at hj; injection hj with hj; subst hj
    exact getD_set_true (hall e he hb)
  · rw [getD_set_ne false (Ne.symm hji)] at hl
    exact getD_set_true (hc j oj hj hl e he hb)

/-- Who must come ahead of a ready one has come; who must come behind has not. -/
theorem bit_listed (hc : Closed ops listed) (hs : listed.size = ops.size) {i j : Nat} {o : Oper} (ho : ops[i]? = some o) (hall : ∀ e ∈ o.after, Region.binds .any e = true → listed.getD e.on false = true)
    (hb : ((Region.before ops).getD i 0).testBit j = true) : listed.getD j false = true := before_closed hc hs i i j o (Nat.le_refl _) ho hall hb
theorem bit_closed (hc : Closed ops listed) (hs : listed.size = ops.size) {i j : Nat} (hl : listed.getD i false = true) (hb : ((Region.before ops).getD i 0).testBit j = true) : listed.getD j false = true := by
  have hlt : i < ops.size := by
    rcases Nat.lt_or_ge i listed.size with h | h
    · omega
    · simp [Array.getElem?_eq_none h] at hl
  have ho := Array.getElem?_eq_getElem hlt
  exact bit_listed hc hs ho (hc i _ ho hl) hb

theorem names_agree (p : Plan P pf ops l nt) (hc : Closed ops listed) (hs : listed.size = ops.size) {i : Nat} {o : Oper} {eo : EOper} (ho : ops[i]? = some o) (he : l[i]? = some eo)
    (hall : ∀ e ∈ o.after, Region.binds .any e = true → listed.getD e.on false = true) (hun : listed.getD i false = false) :
    ∀ t ∈ eo.names, ∀ (k : Nat) ok, l[k]? = some ok → ok.dst = some t → listed.getD k false = decide (k < i) := by
  intro t ht k ok hk hd
  by_cases hki : k = i
  · subst hki; rw [hun]; simp
  · have hbit := p.temps i k eo ok t he hk hd ht (Ne.symm hki)
    rcases Nat.lt_or_ge k i with h | h
    · rw [Nat.max_eq_left (by omega), Nat.min_eq_right (by omega)] at hbit
      rw [bit_listed hc hs ho hall hbit]; simp [h]
    · rw [Nat.max_eq_right (by omega), Nat.min_eq_left (by omega)] at hbit
      have : decide (k < i) = false := by simp; omega
      rw [this]
      cases hl : listed.getD k false with
      | false => rfl
      | true => have := bit_closed hc hs hl hbit; rw [hun] at this; simp at this

theorem getD_true_false {i : Nat} (h : listed.getD i true = false) : listed.getD i false = false := by
  rcases Nat.lt_or_ge i listed.size with h1 | h1
  · simp [h1] at h ⊢; exact h
  · simp [Array.getElem?_eq_none h1] at h

theorem frame_put (p : Plan P pf ops l nt) (hc : Closed ops listed) (hs : listed.size = ops.size) {i : Nat} {o : Oper} {eo : EOper} (ho : ops[i]? = some o) (he : l[i]? = some eo)
    (hall : ∀ e ∈ o.after, Region.binds .any e = true → listed.getD e.on false = true) (hun : listed.getD i false = false) (t : Nat) :
    (fold val (fun j => (listed.setIfInBounds i true).getD j false) l 0 fr0).get t = (putA (fold val (fun j => listed.getD j false) l 0 fr0) eo.dst (val i)).get t := by
  have hlt : i < listed.size := by rw [hs]; exact (Array.getElem?_eq_some_iff.1 ho).1
  rw [get_putA]
  refine fold_add i eo t l 0 fr0 (by omega) (by simpa using he) (fun j _ => ?_) hun (fun k ok hk hd hdi hp => ?_)
  · by_cases hj : j = i
    · subst hj; simp [hlt]
    · rw [getD_set_ne false (Ne.symm hj)]
      have : (j == i) = false := by simp [hj]
      rw [this, Bool.or_false]
  · have := names_agree p hc hs ho he hall hun t (by simp [EOper.names, hdi]) k ok hk hd
    simp only [Nat.zero_add] at hp ⊢
    rw [hp] at this
    simpa using this.symm

theorem louds_inj {s s' i : Nat} (h : (loudsOf l 0)[s]? = some i) (h' : (loudsOf l 0)[s']? = some i) : s = s' := by
  obtain ⟨k, o, e1, _, _, e2⟩ := loudsOf_get l 0 s i h
  obtain ⟨k', o', e1', _, _, e2'⟩ := loudsOf_get l 0 s' i h'
  have : k = k' := by omega
  subst this; omega

theorem step_wp (t : Tie P pf E) (cg : CallsGood P E cf) (pg : PuresGood P E pu) (hA : A.G = E.glob) (p : Plan P pf ops l nt) (hgle : A.G.next ≤ base)
    (fx : Facts cf pu base l 0 fr0 0 [] [] fr' H' val ob hp) (hr : Rst A w0 φ base nt ops l fr0 val ob hp listed m a w) {i : Nat} (hi : i ∈ Region.ready .any ops listed) {K : Act → World → Prop}
    (hK : ∀ m' a' w', Rst A w0 φ base nt ops l fr0 val ob hp (listed.setIfInBounds i true) m' a' w' → K a' w') : wpOp P ops Q i K a w := by
  obtain ⟨hun, o, ho, hall⟩ := mem_ready.1 hi
  replace hun := getD_true_false hun
  obtain ⟨eo, he, hdst, hcomp, hgd, hlo, hhi, hfit⟩ := p.get i o ho
  obtain ⟨φ1, F1, md⟩ := hr.mid
  have hlt : i < ops.size := (Array.getElem?_eq_some_iff.1 ho).1
  have hset : (listed.setIfInBounds i true).getD i false = true := by simp [hr.size, hlt]
  have hsub : ∀ j, j ≠ i → (listed.setIfInBounds i true).getD j false = listed.getD j false := fun j hj => getD_set_ne false (Ne.symm hj)
  -- the frames
  let tf := fold val (fun j => decide (j < i)) l 0 fr0
  let af := fold val (fun j => listed.getD j false) l 0 fr0
  have hnames : ∀ x ∈ eo.names, tf.get x = af.get x := by
    intro x hx
    refine fold_get x l 0 fr0 fr0 rfl fun k ok hk hd => ?_
    rw [Nat.zero_add, names_agree p hr.closed hr.size ho he hall hun x hx k ok hk hd]
  obtain ⟨hev, hwa⟩ := names_ev hnames
  have hwant : Region.wanted o (yielded ops a.tmps) = wantedA eo tf := by rw [wanted_iff md.fr hgd, hwa]
  have hput : ∀ {φ2 : Fi} {v' : Value}, FR φ2 nt af a.tmps → VR φ2 (val i) v' → FR φ2 nt (fold val (fun j => (listed.setIfInBounds i true).getD j false) l 0 fr0) (a.put o.dst v').tmps := by
    intro φ2 v' h1 h2
    refine FR.of_get (frame_put p hr.closed hr.size ho he hall hun) ?_
    rw [hdst]
    exact h1.putA hfit h2
  have hcl := closed_set hr.closed ho hall
  have hsz : (listed.setIfInBounds i true).size = ops.size := by simp [hr.size]
  unfold wpOp
  rw [ho]
  simp only
  rw [hwant]
  by_cases hl : eo.op.loud = true
  · -- a loud one
    have hs := loudsOf_mem l 0 i eo he hl
    rw [Nat.zero_add] at hs
    have hm : lc l i = m := by
      have h1 : ¬ lc l i < m := fun h => by have := (hr.stage _ _ hs).2 h; rw [hun] at this; simp at this
      rcases Nat.eq_zero_or_pos (lc l i) with h0 | h0
      · omega
      · have hlen := (List.getElem?_eq_some_iff.1 hs).1
        have hprev := List.getElem?_eq_getElem (l := loudsOf l 0) (i := lc l i - 1) (by omega)
        have := chain_spec _ _ p.chain (lc l i - 1) _ i hprev (by rw [show lc l i - 1 + 1 = lc l i by omega]; exact hs)
        have := bit_listed hr.closed hr.size ho hall this
        have := (hr.stage _ _ hprev).1 this
        omega
    rw [hm] at hs
    obtain ⟨pd, q1, q2, q3⟩ := fx.loud i eo he hl
    simp only [Nat.zero_add, hm] at q2 q3
    change wantedA eo tf = true → lop cf eo.op tf _ = _ at q2
    change wantedA eo tf = false → _ at q3
    have hmlt : m < (loudsOf l 0).length := (List.getElem?_eq_some_iff.1 hs).1
    -- entries that wait for this one
    have hent : ∀ x ∈ pd, ∃ k ok, l[k]? = some ok ∧ x.1 = ok.hi ∧ x.2.1 = base + k ∧ ob k = some x.2.2 := by
      intro x hx
      rcases q1.1 x hx with h | ⟨k, ok, h1, _, h3, h4, h5⟩
      · simp at h
      · simp only [Nat.zero_add] at h4 h5
        exact ⟨k, ok, h1, h3, h4, h5⟩
    have hentl : ∀ k ok, l[k]? = some ok → ok.hi = m → listed.getD k false = true := by
      intro k ok hk hkm
      obtain ⟨oo, hoo⟩ := p.getE hk
      obtain ⟨eo', e1, _, _, _, _, e6, _⟩ := p.get k oo hoo
      rw [hk] at e1; injection e1 with e1; subst e1
      have := (firstAfter_spec (Region.before ops) k (loudsOf l 0)).2 i (by rw [← e6, hkm]; exact hs)
      exact bit_listed hr.closed hr.size ho hall this
    have hklt : ∀ (k : Nat) ok, l[k]? = some ok → k < ops.size := fun k ok hk => by rw [← p.len]; exact (List.getElem?_eq_some_iff.1 hk).1
    obtain ⟨F2, f1, f2⟩ := commit_inv (A := A) (k := m) pd F1 (hp m) md.inv q1.2
      (fun x hx hxm => by
        obtain ⟨k, ok, h1, h2, h3, h4⟩ := hent x hx
        rw [h3]
        exact md.waits k ok x.2.2 h1 h4 (hentl k ok h1 (by omega)) (by omega))
      (fun x hx y hy hxm hym hne b s b' s' hb hb' => by
        obtain ⟨k, ok, h1, h2, h3, h4⟩ := hent x hx
        obtain ⟨k', ok', h1', h2', h3', h4'⟩ := hent y hy
        rw [h3] at hb; rw [h3'] at hb'
        exact md.dist k k' b s b' s' (hklt k ok h1) (hklt k' ok' h1') (fun e => hne (by rw [h3, h3', e])) hb hb')
    have hless : ∀ b, F2 b = A.F b ∨ A.F b = none := by
      intro b
      rcases f1 b with h | ⟨h, x, hx, hxm, s, hs'⟩
      · rw [h]; exact md.less b
      · right
        obtain ⟨k, ok, h1, h2, h3, h4⟩ := hent x hx
        rw [h3] at hs'
        obtain ⟨b2, sz, o', w1, w2, w3, _⟩ := md.waits k ok x.2.2 h1 h4 (hentl k ok h1 (by omega)) (by omega)
        rw [w1] at hs'
        simp at hs'
        rw [← hs'.1]; exact w3
    -- behind it
    have hstage : ∀ s j, (loudsOf l 0)[s]? = some j → ((listed.setIfInBounds i true).getD j false = true ↔ s < m + 1) := by
      intro s j hj
      by_cases hji : j = i
      · subst hji
        have := louds_inj hj hs
        subst this
        simp [hr.size, hlt]
      · rw [hsub j hji, hr.stage s j hj]
        constructor
        · omega
        · intro h
          have : s ≠ m := fun e => hji (by rw [e, hs] at hj; injection hj with hj; exact hj.symm)
          omega
    have done : ∀ (φ2 : Fi) (v' : Value) (w' : World), Grow φ1 (commit m pd (hp m)) φ2 (hp (m + 1)) → Inv { A with F := F2 } φ2 (hp (m + 1)) w'.heap → Still w w' → VR φ2 (val i) v' → K (a.put o.dst v') w' := by
      intro φ2 v' w' g1 g2 gst g3
      have hle := g1.le f2
      have hnx : (commit m pd (hp m)).next = (hp m).next := commit_next _ _ _
      have hkeep : ∀ j, j < base + ops.size → φ2 j = φ1 j := fun j hj => g1.2 j (by rw [hnx]; have := md.next; omega)
      refine hK (m + 1) _ _ ?_
      refine { size := hsz, closed := hcl, stage := hstage, mle := by omega, defers := by rw [put_defers']; exact hr.defers, still := hr.still.trans gst, mid := ⟨φ2, F2, ?_⟩ }
      refine { next := ?_, low := ?_, less := hless, inv := g2, waits := ?_, dist := ?_, unl := ?_, fr := hput (md.fr.mono hle) g3 }
      · have := g1.1; have := md.next; omega
      · intro j hj; rw [hkeep j (by omega)]; exact md.low j hj
      · intro j oj x hj hob hlj hmj
        have hjlt := hklt j oj hj
        have hji : j ≠ i := by
          intro e; subst e
          rw [he] at hj; injection hj with hj; subst hj
          have := fx.noob j eo he hl
          rw [Nat.zero_add, hob] at this; simp at this
        rw [hsub j hji] at hlj
        obtain ⟨b, sz, o', w1, w2, w3, w4, w5, w6⟩ := md.waits j oj x hj hob hlj (by omega)
        refine ⟨b, sz, o', by rw [hkeep _ (by omega)]; exact w1, ?_, w3, w4, w5.mono hle, w6⟩
        rcases f1 b with h | ⟨_, y, hy, hym, s, hs'⟩
        · rw [h]; exact w2
        · exfalso
          obtain ⟨k, ok, h1, h2, h3, h4⟩ := hent y hy
          rw [h3] at hs'
          refine md.dist j k b sz b s hjlt (hklt k ok h1) (fun e => ?_) w1 hs' rfl
          subst e
          rw [hj] at h1; injection h1 with h1; subst h1
          omega
      · intro j k b s b' s' hj hk hne h1 h2
        rw [hkeep _ (by omega)] at h1 h2
        exact md.dist j k b s b' s' hj hk hne h1 h2
      · intro j hj hlj
        rw [hkeep _ (by omega)]
        have hji : j ≠ i := fun e => by subst e; rw [hset] at hlj; simp at hlj
        rw [hsub j hji] at hlj
        exact md.unl j hj hlj
    split
    · rename_i hw
      left
      have hlop := q2 hw
      rw [lop_congr cf _ eo.op hev] at hlop
      exact loud_wp (A := { A with F := F2 }) t cg hA f2 md.fr hr.defers hcomp hl hlop (fun φ2 v' w' g1 g2 gst g3 => done φ2 v' w' g1 g2 gst g3)
    · rename_i hw
      have hw' : wantedA eo tf = false := by simpa using hw
      obtain ⟨k1, k2⟩ := fx.skip i eo he (by simp only [Nat.zero_add]; exact hw')
      rw [Nat.zero_add] at k1
      have hq := q3 hw'
      refine done φ1 Go.undef w ?_ ?_ (Still.refl w) ?_
      · rw [hq]; exact Grow.refl _ _
      · rw [hq]; exact f2
      · rw [k1]; exact VR.undef
  · -- a quiet one
    have hl' : eo.op.loud = false := by simpa using hl
    have hnl : ∀ s : Nat, (loudsOf l 0)[s]? ≠ some i := by
      intro s hs
      obtain ⟨k, ok, e1, e2, e3, _⟩ := loudsOf_get l 0 s i hs
      rw [Nat.zero_add] at e1; subst e1
      rw [he] at e2; injection e2 with e2; subst e2
      rw [hl'] at e3; simp at e3
    have hstage : ∀ s j, (loudsOf l 0)[s]? = some j → ((listed.setIfInBounds i true).getD j false = true ↔ s < m) := by
      intro s j hj
      have hji : j ≠ i := fun e => by subst e; exact hnl s hj
      rw [hsub j hji]; exact hr.stage s j hj
    have hlom : eo.lo ≤ m := by
      rcases Nat.eq_zero_or_pos eo.lo with h0 | h0
      · omega
      · rw [hlo] at h0 ⊢
        obtain ⟨j, j1, j2⟩ := lastBefore_spec _ _ h0
        have := (hr.stage _ _ j1).1 (bit_listed hr.closed hr.size ho hall j2)
        omega
    have hmhi : m ≤ eo.hi := by
      rcases Nat.lt_or_ge eo.hi m with h | h
      · exfalso
        have hlt2 : eo.hi < (loudsOf l 0).length := by have := hr.mle; omega
        have hj := List.getElem?_eq_getElem hlt2
        have h2 := (firstAfter_spec (Region.before ops) i (loudsOf l 0)).2 _ (by rw [← hhi]; exact hj)
        have := bit_closed hr.closed hr.size ((hr.stage _ _ hj).2 h) h2
        rw [hun] at this; simp at this
      · exact h
    have fin : ∀ (φ2 : Fi) (F2 : Nat → Option Go.Obj) (v' : Value) (w' : World), φ1.le φ2 → (∀ j, j ≠ base + i → φ2 j = φ1 j) → (∀ b, F2 b = A.F b ∨ A.F b = none) → Inv { A with F := F2 } φ2 (hp m) w'.heap →
        (∀ b x, F1 b = some x → F2 b = some x) → (∀ x, ob i = some x → Waits A F2 φ2 (base + i) x) → (∀ j b s b' s', j < ops.size → j ≠ i → φ1 (base + j) = some (b, 0, s) → φ2 (base + i) = some (b', 0, s') → b ≠ b') →
        VR φ2 (val i) v' → Still w w' → K (a.put o.dst v') w' := by
      intro φ2 F2 v' w' hle hkeep hless hinv hF hwi hdi hvr gst
      refine hK m _ _ ?_
      refine { size := hsz, closed := hcl, stage := hstage, mle := hr.mle, defers := by rw [put_defers']; exact hr.defers, still := hr.still.trans gst, mid := ⟨φ2, F2, ?_⟩ }
      refine { next := md.next, low := ?_, less := hless, inv := hinv, waits := ?_, dist := ?_, unl := ?_, fr := hput (md.fr.mono hle) hvr }
      · intro j hj; rw [hkeep j (by omega)]; exact md.low j hj
      · intro j oj x hj hob hlj hmj
        by_cases hji : j = i
        · subst hji; exact hwi x hob
        · rw [hsub j hji] at hlj
          obtain ⟨b, sz, o', w1, w2, w3, w4, w5, w6⟩ := md.waits j oj x hj hob hlj hmj
          exact ⟨b, sz, o', hle _ _ w1, hF _ _ w2, w3, w4, w5.mono hle, w6⟩
      · intro j k b s b' s' hj hk hne h1 h2
        by_cases hji : j = i
        · subst hji
          rw [hkeep _ (by omega)] at h2
          exact Ne.symm (hdi k b' s' b s hk (Ne.symm hne) h2 h1)
        · rw [hkeep (base + j) (by omega)] at h1
          by_cases hki : k = i
          · subst hki; exact hdi j b s b' s' hj hji h1 h2
          · rw [hkeep (base + k) (by omega)] at h2
            exact md.dist j k b s b' s' hj hk hne h1 h2
      · intro j hj hlj
        have hji : j ≠ i := fun e => by subst e; rw [hset] at hlj; simp at hlj
        rw [hsub j hji] at hlj
        rw [hkeep _ (by omega)]
        exact md.unl j hj hlj
    have hnone := md.unl i hlt hun
    split
    · rename_i hw
      left
      have hq := fx.quiet i eo he hl' (by simp only [Nat.zero_add]; exact hw) m hlom hmhi (by rw [Nat.zero_add, ← loudsOf_len l 0]; exact hr.mle)
      simp only [Nat.zero_add] at hq
      change qop' pu eo.op tf _ _ = _ at hq
      rw [qop'_congr pu _ _ eo.op hev] at hq
      refine quiet_wp (A := { A with F := F1 }) t pg hA md.inv hnone md.fr hcomp hl' hq fun v' w' hpost => ?_
      cases hob : ob i with
      | none =>
        rw [hob] at hpost
        obtain ⟨gst, g1, g2, g3⟩ := hpost
        exact fin φ1 F1 v' w' (Fi.le_refl _) (fun _ _ => rfl) md.less (md.inv.grow g1 g2) (fun _ _ h => h) (fun x h => by rw [hob] at h; simp at h)
          (fun j b s b' s' _ _ _ h => by rw [hnone] at h; simp at h) g3 gst
      | some x =>
        rw [hob] at hpost
        obtain ⟨gst, o', sz, g1, g2, g3⟩ := hpost
        have hinv := Inv.pendAlloc (A := { A with F := F1 }) md.inv hnone (by have := md.next; omega) o' sz
        rw [← g1] at hinv
        have hAF : A.F w.heap.size = none := by
          rcases md.less w.heap.size with h | h
          · cases hx : A.F w.heap.size with
            | none => rfl
            | some y =>
              have := md.inv.frn w.heap.size y (by simp only; rw [h, hx])
              simp at this
          · exact h
        have hb : ∀ b y, F1 b = some y → b ≠ w.heap.size := by
          intro b y hy e
          have := md.inv.frn b y hy
          rw [e] at this; simp at this
        refine fin (φ1.put (base + i) w.heap.size 0 sz) _ v' w' (Fi.le_put _ _ _ _ _ hnone) (fun j hj => Fi.put_ne _ _ _ _ _ hj) ?_ hinv ?_ ?_ ?_ g2 gst
        · intro b
          by_cases e : b = w.heap.size
          · subst e; exact .inr hAF
          · simp only [e, if_false]; exact md.less b
        · intro b y hy
          simp only [hb b y hy, if_false]; exact hy
        · intro y hy
          rw [hob] at hy; injection hy with hy; subst hy
          exact ⟨w.heap.size, sz, o', Fi.put_same _ _ _ _ _, by simp, hAF, md.inv.leB, g3, by omega⟩
        · intro j b s b' s' hj hji h1 h2
          rw [Fi.put_same] at h2
          simp at h2
          have := (md.inv.bnd _ _ _ _ h1).1
          omega
    · rename_i hw
      have hw' : wantedA eo tf = false := by simpa using hw
      obtain ⟨k1, k2⟩ := fx.skip i eo he (by simp only [Nat.zero_add]; exact hw')
      rw [Nat.zero_add] at k1 k2
      exact fin φ1 F1 Go.undef w (Fi.le_refl _) (fun _ _ => rfl) md.less md.inv (fun _ _ h => h) (fun x h => by rw [k2] at h; simp at h)
        (fun j b s b' s' _ _ _ h => by rw [hnone] at h; simp at h) (by rw [k1]; exact VR.undef) (Still.refl w)

/-- All have come. -/
theorem end_wp (p : Plan P pf ops l nt) (fx : Facts cf pu base l 0 fr0 0 [] [] fr' H' val ob hp) (hbase : base = H.next) (hr : Rst A w0 φ base nt ops l fr0 val ob hp listed m a w)
    (hall : ∀ i, i < ops.size → listed.getD i false = true) (K : Done A w0 φ H nt fr' H' Q) : Q .normal a w := by
  obtain ⟨φ1, F1, md⟩ := hr.mid
  have hm : m = (loudsOf l 0).length := by
    rcases Nat.lt_or_ge m (loudsOf l 0).length with h | h
    · have hj := List.getElem?_eq_getElem h
      obtain ⟨k, ok, e1, e2, _, _⟩ := loudsOf_get l 0 m _ hj
      have hk : (loudsOf l 0)[m] < ops.size := by
        rw [e1, Nat.zero_add, ← p.len]; exact (List.getElem?_eq_some_iff.1 e2).1
      have := (hr.stage _ _ hj).1 (hall _ hk)
      omega
    · have := hr.mle; omega
  obtain ⟨pd, q1, q2⟩ := fx.last
  rw [Nat.zero_add, ← loudsOf_len l 0, ← hm] at q2
  have hent : ∀ x ∈ pd, ∃ k ok, l[k]? = some ok ∧ x.1 = ok.hi ∧ x.2.1 = base + k ∧ ob k = some x.2.2 ∧ k < ops.size := by
    intro x hx
    rcases q1.1 x hx with h | ⟨k, ok, h1, _, h3, h4, h5⟩
    · simp at h
    · simp only [Nat.zero_add] at h4 h5
      exact ⟨k, ok, h1, h3, h4, h5, by rw [← p.len]; exact (List.getElem?_eq_some_iff.1 h1).1⟩
  obtain ⟨F2, f1, f2⟩ := commit_inv (A := A) (k := m) pd F1 (hp m) md.inv q1.2
    (fun x hx hxm => by
      obtain ⟨k, ok, h1, h2, h3, h4, h5⟩ := hent x hx
      rw [h3]
      exact md.waits k ok x.2.2 h1 h4 (hall k h5) (by omega))
    (fun x hx y hy hxm hym hne b s b' s' hb hb' => by
      obtain ⟨k, ok, h1, h2, h3, h4, h5⟩ := hent x hx
      obtain ⟨k', ok', h1', h2', h3', h4', h5'⟩ := hent y hy
      rw [h3] at hb; rw [h3'] at hb'
      exact md.dist k k' b s b' s' h5 h5' (fun e => hne (by rw [h3, h3', e])) hb hb')
  rw [← q2] at f2
  refine K φ1 a w ?_ ?_ hr.still ?_ hr.defers
  · refine ⟨?_, fun i hi => md.low i (by omega)⟩
    rw [q2, commit_next]; have := md.next; omega
  · have key : ∀ b, A.F b = F2 b ∨ A.F b = none := ?_
    · exact Inv.lessF (A := { A with F := F2 }) f2 (F' := A.F) key
    intro b
    rcases f1 b with h | ⟨h, x, hx, hxm, s, hs'⟩
    · rw [h]
      rcases md.less b with h1 | h1
      · exact .inl h1.symm
      · exact .inr h1
    · right
      obtain ⟨k, ok, h1, h2, h3, h4, h5⟩ := hent x hx
      rw [h3] at hs'
      obtain ⟨b2, sz, o', w1, w2, w3, _⟩ := md.waits k ok x.2.2 h1 h4 (hall k h5) (by omega)
      rw [w1] at hs'
      simp at hs'
      rw [← hs'.1]; exact w3
  · rw [fx.fin]
    have : fold val (fun _ => true) l 0 fr0 = fold val (fun j => listed.getD j false) l 0 fr0 :=
      fold_congr l 0 fr0 fun j _ hj => ⟨(hall j (by rw [← p.len]; omega)).symm, rfl⟩
    rw [this]; exact md.fr

theorem none_ready (p : Plan P pf ops l nt) (hs : listed.size = ops.size) (h : Region.ready .any ops listed = []) : ∀ (n i : Nat), i < n → i < ops.size → listed.getD i false = true := by
  intro n
  induction n with
  | zero => intro i hi; omega
  | succ n ih =>
    intro i hi hlt
    by_cases hin : i < n
    · exact ih i hin hlt
    · have hii : i = n := by omega
      cases hl : listed.getD i false with
      | true => rfl
      | false =>
        exfalso
        have : i ∈ Region.ready .any ops listed := by
          rw [mem_ready]
          have ho := Array.getElem?_eq_getElem hlt
          refine ⟨?_, _, ho, fun e he hb => ?_⟩
          · have hls : i < listed.size := by omega
            simp [hls] at hl ⊢; exact hl
          · have := p.edges i _ ho e he hb
            exact ih e.on (by omega) (by omega)
        rw [h] at this; simp at this

theorem any_wp (t : Tie P pf E) (cg : CallsGood P E cf) (pg : PuresGood P E pu) (hA : A.G = E.glob) (p : Plan P pf ops l nt) (hgle : A.G.next ≤ base) (hbase : base = H.next)
    (fx : Facts cf pu base l 0 fr0 0 [] [] fr' H' val ob hp) (K : Done A w0 φ H nt fr' H' Q) : ∀ (fuel : Nat) (rem : List Nat) (listed : Array Bool) (m : Nat) (a : Act) (w : World), rem.length ≤ fuel →
      (∀ i, i < ops.size → listed.getD i false = false → i ∈ rem) → Rst A w0 φ base nt ops l fr0 val ob hp listed m a w → wpAny P .any ops Q fuel listed a w := by
  intro fuel
  induction fuel with
  | zero =>
    intro rem listed m a w hlen hrem hr
    have hnil : rem = [] := List.length_eq_zero_iff.1 (by omega)
    have hall : ∀ i, i < ops.size → listed.getD i false = true := by
      intro i hi
      cases hl : listed.getD i false with
      | true => rfl
      | false => have := hrem i hi hl; rw [hnil] at this; simp at this
    refine ⟨?_, end_wp p fx hbase hr hall K⟩
    rw [List.eq_nil_iff_forall_not_mem]
    intro i hi
    obtain ⟨h1, o, ho, _⟩ := mem_ready.1 hi
    have := hall i (Array.getElem?_eq_some_iff.1 ho).1
    rw [getD_true_false h1] at this; simp at this
  | succ fuel ih =>
    intro rem listed m a w hlen hrem hr
    refine ⟨fun h0 => end_wp p fx hbase hr (fun i hi => none_ready p hr.size h0 ops.size i hi hi) K, fun i hi => ?_⟩
    obtain ⟨h1, o, ho, _⟩ := mem_ready.1 hi
    have hlt := (Array.getElem?_eq_some_iff.1 ho).1
    have hin := hrem i hlt (getD_true_false h1)
    refine step_wp t cg pg hA p hgle fx hr hi fun m' a' w' hr' => ?_
    refine ih (rem.erase i) _ m' a' w' ?_ ?_ hr'
    · rw [List.length_erase_of_mem hin]; omega
    · intro j hj hlj
      have hji : j ≠ i := by
        intro e; subst e
        simp [hr.size, hlt] at hlj
      rw [getD_set_ne false (Ne.symm hji)] at hlj
      exact (List.mem_erase_of_ne hji).2 (hrem j hj hlj)

/-- A region whose order is open. -/
theorem draw_wp (t : Tie P pf E) (cg : CallsGood P E cf) (pg : PuresGood P E pu) (hA : A.G = E.glob) {id : Nat} (p : Plan P pf ops l nt) (hslot : ∀ (k : Nat) (o : EOper), l[k]? = some o → o.slot = k)
    (hrun : runDraw cf pu H.next l fr0 (H.skip ops.size) [] 0 [] [] = some (fr', H')) (hv : Inv A φ H w.heap) (hf : FR φ nt fr0 a.tmps) (hd : a.defers = []) (K : Done A w φ H nt fr' H' Q) :
    (Code.region id ops true).wp P Q a w := by
  obtain ⟨val, ob, hp, h0, _, fx⟩ := runDraw_facts l 0 fr0 (H.skip ops.size) [] 0 [] [] hrun rfl (fun k o hk => by rw [Nat.zero_add]; exact hslot k o hk) List.Pairwise.nil (fun x hx => by simp at hx)
  refine wp_region_any t.mixed ?_
  refine any_wp t cg pg hA p hv.gle rfl fx K ops.size (List.range ops.size) _ 0 a _ (by simp) (fun i hi _ => by simpa using hi) ?_
  have hno : ∀ j, (Array.replicate ops.size false).getD j false = false := by
    intro j
    rw [Array.getD_eq_getD_getElem?, Array.getElem?_replicate]
    split <;> rfl
  refine { size := by simp, closed := fun i o _ h => by rw [hno] at h; simp at h, stage := fun s i _ => by rw [hno]; simp, mle := Nat.zero_le _, defers := hd, still := ⟨rfl, rfl⟩, mid := ⟨φ, A.F, ?_⟩ }
  refine { next := by rw [h0]; simp [Heap.skip], low := fun _ _ => rfl, less := fun _ => .inl rfl, inv := by rw [h0]; exact hv.skip _, waits := fun j oj x _ _ h => by rw [hno] at h; simp at h,
           dist := fun j k b s b' s' _ _ _ h => by rw [hv.dead_at_next (by omega)] at h; simp at h, unl := fun j _ _ => hv.dead_at_next (by omega), fr := ?_ }
  rw [fold_none l 0 fr0 (fun j _ => hno j)]
  exact hf

end
end Go.Ev
