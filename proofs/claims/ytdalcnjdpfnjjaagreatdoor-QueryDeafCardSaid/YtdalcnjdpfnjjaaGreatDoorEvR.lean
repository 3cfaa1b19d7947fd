/- A region whose order is open: what an operation looks at; what the order's bits say. -/
import Derived.Test.YtdalcnjdpfnjjaaGreatDoorEvQ
import Derived.Still
set_option linter.unusedSimpArgs false
set_option linter.unusedVariables false
namespace Go.Ev
open Go

/-! ### An operation looks at its operands alone -/

theorem parts_congr {fr fr2 : Fr} (ps : List (Nat × Nat × EO)) (h : ∀ x ∈ ps.map (fun p => p.2.2), ev fr x = ev fr2 x) :
    (ps.map fun p => (p.1, p.2.1, ev fr p.2.2)) = (ps.map fun p => (p.1, p.2.1, ev fr2 p.2.2)) := by
  apply List.map_congr_left
  intro p hp
  rw [h p.2.2 (List.mem_map.2 ⟨p, hp, rfl⟩)]
theorem opt_congr {fr fr2 : Fr} (x : Option EO) (h : ∀ y ∈ x.toList, ev fr y = ev fr2 y) : x.map (ev fr) = x.map (ev fr2) := by
  cases x with
  | none => rfl
  | some y => simp; exact h y (by simp)

theorem qop_congr {fr fr2 : Fr} (H : Heap) (nid : Nat) (e : EOp) (h : ∀ x ∈ e.eos, ev fr x = ev fr2 x) : qop e fr H nid = qop e fr2 H nid := by
  cases e with
  | build z ps => simp only [qop]; rw [parts_congr ps h]
  | bslice es n z ps => simp only [qop]; rw [parts_congr ps h]
  | mkF f x y =>
    simp only [qop]
    have h1 : x.map (ev fr) = x.map (ev fr2) := List.map_congr_left fun z hz => h z (by simp [EOp.eos, hz])
    have h2 : y.map (ev fr) = y.map (ev fr2) := List.map_congr_left fun z hz => h z (by simp [EOp.eos, hz])
    rw [h1, h2]
  | mx as =>
    simp only [qop]
    have h1 : as.map (ev fr) = as.map (ev fr2) := List.map_congr_left fun z hz => h z (by simp [EOp.eos, hz])
    rw [h1]
  | mn as =>
    simp only [qop]
    have h1 : as.map (ev fr) = as.map (ev fr2) := List.map_congr_left fun z hz => h z (by simp [EOp.eos, hz])
    rw [h1]
  | slS x lo hi =>
    simp only [qop]
    rw [h x (by simp [EOp.eos]), opt_congr lo (fun y hy => h y (by simp [EOp.eos] at hy ⊢; simp [hy])), opt_congr hi (fun y hy => h y (by simp [EOp.eos] at hy ⊢; simp [hy]))]
  | slL es x lo hi m =>
    simp only [qop]
    rw [h x (by simp [EOp.eos]), opt_congr lo (fun y hy => h y (by simp [EOp.eos] at hy ⊢; simp [hy])), opt_congr hi (fun y hy => h y (by simp [EOp.eos] at hy ⊢; simp [hy])), opt_congr m (fun y hy => h y (by simp [EOp.eos] at hy ⊢; simp [hy]))]
  | slA es n x lo hi m =>
    simp only [qop]
    rw [h x (by simp [EOp.eos]), opt_congr lo (fun y hy => h y (by simp [EOp.eos] at hy ⊢; simp [hy])), opt_congr hi (fun y hy => h y (by simp [EOp.eos] at hy ⊢; simp [hy])), opt_congr m (fun y hy => h y (by simp [EOp.eos] at hy ⊢; simp [hy]))]
  | pick c x y => simp only [qop]; rw [h c (by simp [EOp.eos]), h x (by simp [EOp.eos]), h y (by simp [EOp.eos])]
  | mv x | box x | ld1 x | ldn _ x | nilchk x | un _ x | cvI _ x | cvSS x | cvSB x | cvBS x | cvRS x | mkI _ x | fa _ x | fld1 _ x | fldn _ _ x | rngS x | tas _ _ _ x | ext x _ | len x | lenS x | cap x =>
    simp only [qop]; rw [h x (by simp [EOp.eos])]
  | ibin _ x y | sbin _ x y | beq _ x y | neq0 _ _ x y | aeq _ _ x y | mkSlice _ _ _ x y | ia _ x y | iaA _ _ x y | ixS x y | ixA1 _ _ x y | ixAn _ _ x y =>
    simp only [qop]; rw [h x (by simp [EOp.eos]), h y (by simp [EOp.eos])]
  | _ => rfl

theorem qop'_congr {fr fr2 : Fr} (pu : FuncId → List V → Option V) (H : Heap) (nid : Nat) (e : EOp) (h : ∀ x ∈ e.eos, ev fr x = ev fr2 x) : qop' pu e fr H nid = qop' pu e fr2 H nid := by
  cases e with
  | pcall f as =>
    simp only [qop']
    have h1 : as.map (ev fr) = as.map (ev fr2) := List.map_congr_left fun z hz => h z (by simp [EOp.eos, hz])
    rw [h1]
  | _ => exact qop_congr H nid _ h

theorem lop_congr {fr fr2 : Fr} (cf : FuncId → List V → Heap → Option (V × Heap)) (H : Heap) (e : EOp) (h : ∀ x ∈ e.eos, ev fr x = ev fr2 x) : lop cf e fr H = lop cf e fr2 H := by
  cases e with
  | call f as =>
    simp only [lop]
    have h1 : as.map (ev fr) = as.map (ev fr2) := List.map_congr_left fun z hz => h z (by simp [EOp.eos, hz])
    rw [h1]
  | callv x as =>
    simp only [lop]
    have h1 : as.map (ev fr) = as.map (ev fr2) := List.map_congr_left fun z hz => h z (by simp [EOp.eos, hz])
    rw [h1, h x (by simp [EOp.eos])]
  | st _ x y | app _ _ x y | appZ _ _ _ x y | copy _ x y => simp only [lop]; rw [h x (by simp [EOp.eos]), h y (by simp [EOp.eos])]
  | cvLL x | next x | clr _ _ x => simp only [lop]; rw [h x (by simp [EOp.eos])]
  | _ => rfl

theorem names_ev {fr fr2 : Fr} {o : EOper} (h : ∀ t ∈ o.names, fr.get t = fr2.get t) : (∀ x ∈ o.op.eos, ev fr x = ev fr2 x) ∧ wantedA o fr = wantedA o fr2 := by
  constructor
  · intro x hx
    cases x with
    | c v => rfl
    | t n =>
      simp only [ev]
      rw [h n (by simp only [EOper.names, List.mem_append, List.mem_filterMap]; exact .inl (.inl ⟨.t n, hx, rfl⟩))]
  · unfold wantedA
    cases hg : o.guard with
    | none => rfl
    | some g =>
      obtain ⟨t, b⟩ := g
      simp only
      rw [h t (by simp [EOper.names, hg])]

/-! ### Values alike to the test are the same -/

mutual
theorem V.beq_sound : ∀ (a b : V), V.beq a b = true → a = b
  | .bool a, b, h => by cases b <;> simp [V.beq] at h; rw [h]
  | .int k n, b, h => by cases b <;> simp [V.beq] at h; rw [h.1, h.2]
  | .str s, b, h => by cases b <;> simp [V.beq] at h; rw [h]
  | .nilp, b, h => by cases b <;> simp [V.beq] at h; rfl
  | .ptr i o, b, h => by cases b <;> simp [V.beq] at h; rw [h.1, h.2]
  | .nils, b, h => by cases b <;> simp [V.beq] at h; rfl
  | .sl i o n es f, b, h => by cases b <;> simp [V.beq] at h; obtain ⟨⟨⟨⟨h1, h2⟩, h3⟩, h4⟩, h5⟩ := h; rw [h1, h2, h3, h4, h5]
  | .fn f x y, b, h => by
    cases b <;> simp [V.beq] at h
    obtain ⟨⟨h1, h2⟩, h3⟩ := h
    rw [h1, V.beqs_sound _ _ h2, V.beqs_sound _ _ h3]
  | .nilFn, b, h => by cases b <;> simp [V.beq] at h; rfl
  | .iface t v, b, h => by cases b <;> simp [V.beq] at h; rw [h.1, V.beq_sound _ _ h.2]
  | .nilI, b, h => by cases b <;> simp [V.beq] at h; rfl
  | .nilm, b, h => by cases b <;> simp [V.beq] at h; rfl
  | .map i, b, h => by cases b <;> simp [V.beq] at h; rw [h]
  | .agg x, b, h => by cases b <;> simp [V.beq] at h; rw [V.beqs_sound _ _ h]
  | .tup x, b, h => by cases b <;> simp [V.beq] at h; rw [V.beqs_sound _ _ h]
theorem V.beqs_sound : ∀ (a b : List V), V.beqs a b = true → a = b
  | [], [], _ => rfl
  | x :: xs, y :: ys, h => by
    simp [V.beqs] at h
    rw [V.beq_sound _ _ h.1, V.beqs_sound _ _ h.2]
  | [], _ :: _, h => by simp [V.beqs] at h
  | _ :: _, [], h => by simp [V.beqs] at h
end
theorem sameB_sound {a b : Option Obj} (h : sameB a b = true) : a = b := by
  cases a with
  | none => cases b <;> simp [sameB] at h; rfl
  | some x =>
    cases b with
    | none => simp [sameB] at h
    | some y =>
      simp only [sameB] at h
      cases x <;> cases y <;> simp [Obj.beq] at h
      · rw [h.1, V.beqs_sound _ _ h.2]
      · rw [h.1, h.2]
theorem okAt_sound {pu : FuncId → List V → Option V} {op : EOp} {fr : Fr} {nid : Nat} {v : V} {b : Option Obj} {H : Heap} (h : okAt pu op fr nid v b H = true) : qop' pu op fr H nid = some (v, b) := by
  unfold okAt at h
  split at h
  · rename_i v' b' hq
    simp at h
    rw [hq, V.beq_sound _ _ h.1, sameB_sound h.2]
  · simp at h

/-! ### The order's bits -/

def bitsOf (acc : Array Nat) (o : Oper) : Nat :=
  o.after.foldl (fun s e => if Region.binds .any e then s ||| 2 ^ e.on ||| acc.getD e.on 0 else s) 0

theorem bits_list (acc : Array Nat) (j : Nat) : ∀ (es : List Edge) (s : Nat), (es.foldl (fun s e => if Region.binds .any e then s ||| 2 ^ e.on ||| acc.getD e.on 0 else s) s).testBit j = true →
    s.testBit j = true ∨ ∃ e ∈ es, Region.binds .any e = true ∧ (e.on = j ∨ (acc.getD e.on 0).testBit j = true)
  | [], s, h => .inl h
  | e :: es, s, h => by
    simp only [List.foldl_cons] at h
    rcases bits_list acc j es _ h with h1 | ⟨e', h1, h2⟩
    · by_cases hb : Region.binds .any e = true
      · simp only [hb, if_true, Nat.testBit_or, Bool.or_eq_true] at h1
        rcases h1 with (h1 | h1) | h1
        · exact .inl h1
        · refine .inr ⟨e, by simp, hb, .inl ?_⟩
          have := Nat.testBit_two_pow (n := e.on) (m := j)
          rw [this] at h1
          simpa using h1
        · exact .inr ⟨e, by simp, hb, .inr h1⟩
      · simp only [hb, Bool.false_eq_true, if_false] at h1; exact .inl h1
    · exact .inr ⟨e', by simp [h1], h2⟩
theorem bits_of {acc : Array Nat} {o : Oper} {j : Nat} (h : (bitsOf acc o).testBit j = true) : ∃ e ∈ o.after, Region.binds .any e = true ∧ (e.on = j ∨ (acc.getD e.on 0).testBit j = true) := by
  unfold bitsOf at h
  rw [← Array.foldl_toList] at h
  rcases bits_list acc j _ _ h with h1 | ⟨e, h1, h2⟩
  · simp at h1
  · exact ⟨e, by simpa using h1, h2⟩

theorem before_go : ∀ (os : List Oper) (acc : Array Nat), ∃ acc', os.foldl (fun acc o => acc.push (bitsOf acc o)) acc = acc' ∧ acc'.size = acc.size + os.length ∧ (∀ i, i < acc.size → acc'.getD i 0 = acc.getD i 0) ∧
    ∀ k o, os[k]? = some o → ∃ pre : Array Nat, pre.size = acc.size + k ∧ (∀ i, i < acc.size + k → pre.getD i 0 = acc'.getD i 0) ∧ acc'.getD (acc.size + k) 0 = bitsOf pre o
  | [], acc => ⟨acc, rfl, rfl, fun _ _ => rfl, fun k o h => by simp at h⟩
  | o :: os, acc => by
    obtain ⟨acc', h1, h2, h3, h4⟩ := before_go os (acc.push (bitsOf acc o))
    have hold : ∀ i, i < acc.size → acc'.getD i 0 = acc.getD i 0 := by
      intro i hi
      rw [h3 i (by simp; omega)]
      simp [Array.getElem?_push, hi, Nat.ne_of_lt hi]
    refine ⟨acc', by simpa using h1, by simp at h2 ⊢; omega, hold, fun k o' hk => ?_⟩
    cases k with
    | zero =>
      simp at hk; subst hk
      refine ⟨acc, rfl, fun i hi => (hold i (by omega)).symm, ?_⟩
      rw [Nat.add_zero, h3 acc.size (by simp)]
      simp
    | succ k =>
      obtain ⟨pre, p1, p2, p3⟩ := h4 k o' (by simpa using hk)
      simp at p1 p2 p3
      exact ⟨pre, by omega, fun i hi => by simpa using p2 i (by omega), by rw [show acc.size + (k + 1) = acc.size + 1 + k by omega]; simpa using p3⟩

theorem before_eq (ops : Array Oper) : Region.before ops = ops.toList.foldl (fun acc o => acc.push (bitsOf acc o)) #[] := by
  unfold Region.before bitsOf
  rw [← Array.foldl_toList]

theorem before_bit {ops : Array Oper} {i j : Nat} {o : Oper} (ho : ops[i]? = some o) (h : ((Region.before ops).getD i 0).testBit j = true) :
    ∃ e ∈ o.after, Region.binds .any e = true ∧ (e.on = j ∨ (e.on < i ∧ ((Region.before ops).getD e.on 0).testBit j = true)) := by
  obtain ⟨acc', h1, h2, h3, h4⟩ := before_go ops.toList #[]
  rw [before_eq, h1] at h ⊢
  obtain ⟨pre, p1, p2, p3⟩ := h4 i o (by rw [Array.getElem?_toList]; exact ho)
  simp only [List.size_toArray, List.length_nil, Nat.zero_add] at p1 p2 p3
  rw [p3] at h
  obtain ⟨e, e1, e2, e3⟩ := bits_of h
  refine ⟨e, e1, e2, ?_⟩
  rcases e3 with e3 | e3
  · exact .inl e3
  · by_cases hlt : e.on < i
    · right; rw [p2 e.on hlt] at e3; exact ⟨hlt, e3⟩
    · have : pre.getD e.on 0 = 0 := by
        rw [Array.getD_eq_getD_getElem?, Array.getElem?_eq_none (by omega)]; rfl
      rw [this] at e3; simp at e3

/-- Whatever has come, all that must come ahead of it has. -/
def Closed (ops : Array Oper) (listed : Array Bool) : Prop :=
  ∀ i o, ops[i]? = some o → listed.getD i false = true → ∀ e ∈ o.after, Region.binds .any e = true → listed.getD e.on false = true

theorem before_closed {ops : Array Oper} {listed : Array Bool} (hc : Closed ops listed) (hsz : listed.size = ops.size) : ∀ (n i j : Nat) (o : Oper), i ≤ n → ops[i]? = some o → (∀ e ∈ o.after, Region.binds .any e = true → listed.getD e.on false = true) →
    ((Region.before ops).getD i 0).testBit j = true → listed.getD j false = true := by
  intro n
  induction n with
  | zero =>
    intro i j o hi ho hall h
    obtain ⟨e, e1, e2, e3⟩ := before_bit ho h
    rcases e3 with e3 | ⟨e3, _⟩
    · rw [← e3]; exact hall e e1 e2
    · omega
  | succ n ih =>
    intro i j o hi ho hall h
    obtain ⟨e, e1, e2, e3⟩ := before_bit ho h
    rcases e3 with e3 | ⟨e3, e4⟩
    · rw [← e3]; exact hall e e1 e2
    · have hl := hall e e1 e2
      have hlt : e.on < ops.size := by
        rcases Nat.lt_or_ge e.on ops.size with h | h
        · exact h
        · rw [Array.getD_eq_getD_getElem?, Array.getElem?_eq_none (by omega)] at hl; simp at hl
      exact ih e.on j _ (by omega) (Array.getElem?_eq_getElem hlt) (hc e.on _ (Array.getElem?_eq_getElem hlt) hl) e4

end Go.Ev
