/- What the evaluator's values and heap stand for: the relation to the model's world, and how reads, writes and new blocks keep it. -/
import Derived.Test.YtdalcnjdpfnjjaaGreatDoorEvB
import Derived.Calls
import Derived.Orders
import Derived.Laws.Cells
import Derived.Laws.Entries
set_option linter.unusedSimpArgs false
set_option linter.unusedVariables false
namespace Go.Ev
open Go

/-- Where a block of the evaluator's lies: block, offset, size. -/
abbrev Fi := Nat → Option (Nat × Nat × Nat)

inductive VR (φ : Fi) : V → Value → Prop
  | bool (b : Bool) : VR φ (.bool b) (.bool b)
  | int (k : IntKind) (n : Int) : VR φ (.int k n) (.int k n)
  | str (s : List Nat) (bs : ByteArray) : ofBytes bs = s → VR φ (.str s) (.string bs)
  | nilp : VR φ .nilp (.pointer none)
  | ptr (i o b d sz : Nat) : φ i = some (b, d, sz) → VR φ (.ptr i o) (.pointer (some ⟨b, d + o, none⟩))
  | nils : VR φ .nils (.slice none 0 0)
  | sl (i o n es : Nat) (full : Bool) (b d sz c : Nat) : φ i = some (b, d, sz) → n ≤ c → (full = true → c = n) → d + o + c * es ≤ sz →
      VR φ (.sl i o n es full) (.slice (some ⟨b, d + o, none⟩) n c)
  | sl0 (i o es : Nat) (full : Bool) (a : Addr) : a.spot = none → VR φ (.sl i o 0 es full) (.slice (some a) 0 0)
  | fn (f : FuncId) (first cap : List V) (first' cap' : Array Value) :
      first.length = first'.toList.length → (∀ (i : Nat) v v', first[i]? = some v → first'.toList[i]? = some v' → VR φ v v') →
      cap.length = cap'.toList.length → (∀ (i : Nat) v v', cap[i]? = some v → cap'.toList[i]? = some v' → VR φ v v') →
      VR φ (.fn f first cap) (.func (.func f) first' cap')
  | nilFn : VR φ .nilFn .nilFunc
  | iface (t : TypeId) (v : V) (v' : Value) : VR φ v v' → VR φ (.iface t v) (.iface t v')
  | nilI : VR φ .nilI .nilIface
  | nilm : VR φ .nilm (.map none)
  | map (i b d sz : Nat) : φ i = some (b, d, sz) → VR φ (.map i) (.map (some b))
  | agg (cs : List V) (cs' : Array Value) : cs.length = cs'.toList.length → (∀ (i : Nat) v v', cs[i]? = some v → cs'.toList[i]? = some v' → VR φ v v') →
      VR φ (.agg cs) (.agg cs')
  | tup (cs : List V) (cs' : Array Value) : cs.length = cs'.toList.length → (∀ (i : Nat) v v', cs[i]? = some v → cs'.toList[i]? = some v' → VR φ v v') →
      VR φ (.tup cs) (.tuple cs')

/-- Two lists, one by one. -/
def VRs (φ : Fi) (l : List V) (l' : List Value) : Prop :=
  l.length = l'.length ∧ ∀ (i : Nat) v v', l[i]? = some v → l'[i]? = some v' → VR φ v v'

def Fi.le (φ ψ : Fi) : Prop := ∀ i x, φ i = some x → ψ i = some x
/-- From one map and heap to a later one: what was numbered stays so; new numbers alone are new. -/
def Grow (φ : Fi) (H : Heap) (φ' : Fi) (H' : Heap) : Prop := H.next ≤ H'.next ∧ ∀ i, i < H.next → φ' i = φ i
theorem Grow.refl (φ : Fi) (H : Heap) : Grow φ H φ H := ⟨Nat.le_refl _, fun _ _ => rfl⟩
theorem Grow.trans {φ φ' φ'' : Fi} {H H' H'' : Heap} (g : Grow φ H φ' H') (g' : Grow φ' H' φ'' H'') : Grow φ H φ'' H'' :=
  ⟨Nat.le_trans g.1 g'.1, fun i hi => by rw [g'.2 i (Nat.lt_of_lt_of_le hi g.1), g.2 i hi]⟩
theorem Fi.le_refl (φ : Fi) : φ.le φ := fun _ _ h => h
theorem Fi.le_trans {φ ψ χ : Fi} (h : φ.le ψ) (h' : ψ.le χ) : φ.le χ := fun i x e => h' i x (h i x e)

theorem VR.mono {φ ψ : Fi} (h : φ.le ψ) {v : V} {v' : Value} (r : VR φ v v') : VR ψ v v' := by
  induction r with
  | bool b => exact .bool b
  | int k n => exact .int k n
  | str s bs e => exact .str s bs e
  | nilp => exact .nilp
  | ptr i o b d sz e => exact .ptr i o b d sz (h _ _ e)
  | nils => exact .nils
  | sl i o n es full b d sz c e h1 h2 h3 => exact .sl i o n es full b d sz c (h _ _ e) h1 h2 h3
  | sl0 i o es full a e => exact .sl0 i o es full a e
  | fn f a b a' b' h1 h2 h3 h4 ih1 ih2 => exact .fn f a b a' b' h1 ih1 h3 ih2
  | nilFn => exact .nilFn
  | iface t v v' _ ih => exact .iface t v v' ih
  | nilI => exact .nilI
  | nilm => exact .nilm
  | map i b d sz e => exact .map i b d sz (h _ _ e)
  | agg cs cs' h1 h2 ih => exact .agg cs cs' h1 ih
  | tup cs cs' h1 h2 ih => exact .tup cs cs' h1 ih

theorem VRs.mono {φ ψ : Fi} (h : φ.le ψ) {l : List V} {l' : List Value} (r : VRs φ l l') : VRs ψ l l' :=
  ⟨r.1, fun i v v' a b => (r.2 i v v' a b).mono h⟩

theorem VRs.nil (φ : Fi) : VRs φ [] [] := ⟨rfl, fun i v v' h => by simp at h⟩
theorem VRs.cons {φ : Fi} {v : V} {v' : Value} {l : List V} {l' : List Value} (h : VR φ v v') (r : VRs φ l l') : VRs φ (v :: l) (v' :: l') := by
  refine ⟨by simp [r.1], fun i a a' ha ha' => ?_⟩
  cases i with
  | zero => simp at ha ha'; subst ha; subst ha'; exact h
  | succ i => exact r.2 i a a' (by simpa using ha) (by simpa using ha')
theorem VRs.head {φ : Fi} {v : V} {v' : Value} {l : List V} {l' : List Value} (r : VRs φ (v :: l) (v' :: l')) : VR φ v v' := r.2 0 v v' rfl rfl
theorem VRs.tail {φ : Fi} {v : V} {v' : Value} {l : List V} {l' : List Value} (r : VRs φ (v :: l) (v' :: l')) : VRs φ l l' :=
  ⟨by have := r.1; simpa using this, fun i a a' ha ha' => r.2 (i + 1) a a' (by simpa using ha) (by simpa using ha')⟩
theorem VRs.of_nil {φ : Fi} {l' : List Value} (r : VRs φ [] l') : l' = [] := by
  have := r.1; exact List.length_eq_zero_iff.1 (by simpa using this.symm)
theorem VRs.of_cons {φ : Fi} {v : V} {l : List V} {l' : List Value} (r : VRs φ (v :: l) l') : ∃ v' r', l' = v' :: r' ∧ VR φ v v' ∧ VRs φ l r' := by
  cases l' with
  | nil => have := r.1; simp at this
  | cons v' r' => exact ⟨v', r', rfl, r.head, r.tail⟩
theorem VRs.append {φ : Fi} {a b : List V} {a' b' : List Value} (r : VRs φ a a') (s : VRs φ b b') : VRs φ (a ++ b) (a' ++ b') := by
  induction a generalizing a' with
  | nil => rw [r.of_nil]; exact s
  | cons v a ih => obtain ⟨v', r', rfl, h1, h2⟩ := r.of_cons; exact .cons h1 (ih h2)
theorem VRs.take {φ : Fi} {a : List V} {a' : List Value} (r : VRs φ a a') (n : Nat) : VRs φ (a.take n) (a'.take n) := by
  refine ⟨by simp [r.1], fun i v v' h h' => ?_⟩
  rw [List.getElem?_take] at h h'
  split at h
  · rename_i hi; rw [if_pos hi] at h'; exact r.2 i v v' h h'
  · simp at h
theorem VRs.drop {φ : Fi} {a : List V} {a' : List Value} (r : VRs φ a a') (n : Nat) : VRs φ (a.drop n) (a'.drop n) := by
  refine ⟨by simp [r.1], fun i v v' h h' => ?_⟩
  rw [List.getElem?_drop] at h h'
  exact r.2 _ v v' h h'
theorem VRs.get {φ : Fi} {a : List V} {a' : List Value} (r : VRs φ a a') {i : Nat} {v : V} (h : a[i]? = some v) : ∃ v', a'[i]? = some v' ∧ VR φ v v' := by
  have hi : i < a.length := (List.getElem?_eq_some_iff.1 h).1
  have hi' : i < a'.length := by rw [← r.1]; exact hi
  exact ⟨a'[i], List.getElem?_eq_getElem hi', r.2 i v _ h (List.getElem?_eq_getElem hi')⟩
theorem VRs.map' {φ : Fi} {α : Type} (l : List α) (f : α → V) (g : α → Value) (h : ∀ x, VR φ (f x) (g x)) : VRs φ (l.map f) (l.map g) := by
  induction l with
  | nil => exact .nil φ
  | cons x l ih => exact .cons (h x) ih
theorem VRs.rep {φ : Fi} {l : List V} {l' : List Value} (r : VRs φ l l') : ∀ n : Nat, ∃ r', VRs φ (Ev.rep n l) r' ∧ r' = (List.replicate n l').flatten
  | 0 => ⟨[], .nil φ, by simp⟩
  | n + 1 => by
    obtain ⟨r', h, e⟩ := VRs.rep r n
    exact ⟨l' ++ r', r.append h, by rw [e]; simp [List.replicate_succ]⟩

theorem VR.agg' {φ : Fi} {cs : List V} {cs' : Array Value} (r : VRs φ cs cs'.toList) : VR φ (.agg cs) (.agg cs') := .agg cs cs' r.1 r.2
theorem VR.tup' {φ : Fi} {cs : List V} {cs' : Array Value} (r : VRs φ cs cs'.toList) : VR φ (.tup cs) (.tuple cs') := .tup cs cs' r.1 r.2
theorem VR.of_agg {φ : Fi} {cs : List V} {v' : Value} (r : VR φ (.agg cs) v') : ∃ cs' : Array Value, v' = .agg cs' ∧ VRs φ cs cs'.toList := by
  cases r with | agg _ cs' h1 h2 => exact ⟨cs', rfl, h1, h2⟩
theorem VR.of_tup {φ : Fi} {cs : List V} {v' : Value} (r : VR φ (.tup cs) v') : ∃ cs' : Array Value, v' = .tuple cs' ∧ VRs φ cs cs'.toList := by
  cases r with | tup _ cs' h1 h2 => exact ⟨cs', rfl, h1, h2⟩
theorem VR.undef {φ : Fi} : VR φ V.undef Go.undef := .tup [] #[] rfl (fun i v v' h => by simp at h)
theorem VR.cells {φ : Fi} {v : V} {v' : Value} (r : VR φ v v') : VRs φ v.cells v'.cells.toList := by
  cases r with
  | agg cs cs' h1 h2 => exact ⟨h1, h2⟩
  | _ => exact VRs.cons (by constructor <;> assumption) (.nil φ)
theorem VR.isCell {φ : Fi} {v : V} {v' : Value} (r : VR φ v v') (h : v.isCell = true) : v'.oneCell' = true := by
  cases r <;> simp [V.isCell, Value.oneCell'] at h ⊢
theorem VRs.isCell {φ : Fi} {l : List V} {l' : List Value} (r : VRs φ l l') (h : l.all V.isCell = true) : ∀ v ∈ l', v.oneCell' = true := by
  induction l generalizing l' with
  | nil => rw [r.of_nil]; simp
  | cons v l ih =>
    obtain ⟨v', r', rfl, h1, h2⟩ := r.of_cons
    simp at h
    intro x hx
    rcases List.mem_cons.1 hx with rfl | hx
    · exact h1.isCell h.1
    · exact ih h2 (by simpa using h.2) x hx

/-- A value in which no block's number stands is the same under every map. -/
theorem VR.ground {φ ψ : Fi} {v : V} {v' : Value} (r : VR φ v v') : v.ground = true → VR ψ v v' := by
  have grounds_get : ∀ (l : List V), V.grounds l = true → ∀ (i : Nat) v, l[i]? = some v → v.ground = true := by
    intro l
    induction l with
    | nil => intro _ i v h; simp at h
    | cons a l ih =>
      intro h i v hv
      simp [V.grounds] at h
      cases i with
      | zero => simp at hv; subst hv; exact h.1
      | succ i => exact ih h.2 i v (by simpa using hv)
  induction r with
  | bool b => intro _; exact .bool b
  | int k n => intro _; exact .int k n
  | str s bs e => intro _; exact .str s bs e
  | nilp => intro _; exact .nilp
  | ptr i o b d sz e => intro h; simp [V.ground] at h
  | nils => intro _; exact .nils
  | sl i o n es full b d sz c e h1 h2 h3 => intro h; simp [V.ground] at h
  | sl0 i o es full a e => intro h; simp [V.ground] at h
  | fn f a b a' b' h1 h2 h3 h4 ih1 ih2 =>
    intro h
    simp [V.ground] at h
    exact .fn f a b a' b' h1 (fun i v v' hv hv' => ih1 i v v' hv hv' (grounds_get a h.1 i v hv)) h3 (fun i v v' hv hv' => ih2 i v v' hv hv' (grounds_get b h.2 i v hv))
  | nilFn => intro _; exact .nilFn
  | iface t v v' _ ih => intro h; simp [V.ground] at h; exact .iface t v v' (ih h)
  | nilI => intro _; exact .nilI
  | nilm => intro _; exact .nilm
  | map i b d sz e => intro h; simp [V.ground] at h
  | agg cs cs' h1 h2 ih => intro h; simp [V.ground] at h; exact .agg cs cs' h1 (fun i v v' hv hv' => ih i v v' hv hv' (grounds_get cs h i v hv))
  | tup cs cs' h1 h2 ih => intro h; simp [V.ground] at h; exact .tup cs cs' h1 (fun i v v' hv hv' => ih i v v' hv hv' (grounds_get cs h i v hv))

theorem VRs.ground {φ ψ : Fi} {l : List V} {l' : List Value} (r : VRs φ l l') (h : V.grounds l = true) : VRs ψ l l' := by
  induction l generalizing l' with
  | nil => rw [r.of_nil]; exact .nil ψ
  | cons v l ih =>
    obtain ⟨v', r', rfl, h1, h2⟩ := r.of_cons
    simp [V.grounds] at h
    exact .cons (h1.ground h.1) (ih h2 h.2)

/-! ### Frames -/

structure FR (φ : Fi) (nt : Nat) (fr : Fr) (tmps : Array Value) : Prop where
  size : nt ≤ tmps.size
  val : ∀ t : Nat, VR φ ((fr.get t).getD V.undef) (tmps.getD t Go.undef)

theorem FR.mono {φ ψ : Fi} (h : φ.le ψ) {nt : Nat} {fr : Fr} {tmps : Array Value} (r : FR φ nt fr tmps) : FR ψ nt fr tmps :=
  ⟨r.size, fun t => (r.val t).mono h⟩

theorem FR.put {φ : Fi} {nt : Nat} {fr : Fr} {tmps : Array Value} (r : FR φ nt fr tmps) {d : Nat} (hd : d < nt) {v : V} {v' : Value} (h : VR φ v v') :
    FR φ nt (fr.set v d) (tmps.setIfInBounds d v') := by
  refine ⟨by simpa using r.size, fun t => ?_⟩
  rw [T.get_set]
  have hs := r.size
  by_cases e : d = t
  · subst e
    have : d < tmps.size := by omega
    simp [this, h]
  · have := r.val t
    simp only [e, if_false]
    rw [Array.getD_eq_getD_getElem?, Array.getElem?_setIfInBounds_ne e, ← Array.getD_eq_getD_getElem?]
    exact this

theorem FR.putA {φ : Fi} {nt : Nat} {fr : Fr} {a : Act} (r : FR φ nt fr a.tmps) {dst : Option Nat} (hd : ∀ d, dst = some d → d < nt) {v : V} {v' : Value} (h : VR φ v v') :
    FR φ nt (putA fr dst v) (a.put dst v').tmps := by
  cases dst with
  | none => exact r
  | some d => exact r.put (hd d rfl) h

/-! ### Operands -/

theorem leafV_sound {φ : Fi} {v : Value} {a : V} (h : leafV v = some a) : VR φ a v := by
  unfold leafV at h
  split at h <;> first
    | (injection h with h; subst h; first | exact .bool _ | exact .int _ _ | exact .str _ _ rfl | exact .nilp | exact .nils | exact .nilFn | exact .nilI | exact .nilm)
    | (exact absurd h (by simp))
theorem leavesV_sound {φ : Fi} : ∀ {l : List Value} {as : List V}, leavesV l = some as → VRs φ as l
  | [], as, h => by simp [leavesV] at h; subst h; exact .nil φ
  | v :: l, as, h => by
    simp only [leavesV] at h
    split at h
    · rename_i a as' h1 h2
      injection h with h; subst h
      exact .cons (leafV_sound h1) (leavesV_sound h2)
    · simp at h
theorem constV_sound {φ : Fi} {v : Value} {a : V} (h : constV v = some a) : VR φ a v := by
  unfold constV at h
  split at h
  · rename_i cs
    cases hl : leavesV cs.toList with
    | none => simp [hl] at h
    | some as => simp [hl] at h; subst h; exact .agg' (leavesV_sound hl)
  · exact leafV_sound h

/-- The package variables lie where they lie. -/
def GlobAt (φ : Fi) (g : Nat) : Prop := ∀ k, k < g → ∃ sz, φ k = some (k, 0, sz)

theorem opnd_sound {φ : Fi} {g nt : Nat} {fr : Fr} {a : Act} (hg : GlobAt φ g) (r : FR φ nt fr a.tmps) {x : Operand} {e : EO} (h : opnd g x = some e) :
    VR φ (ev fr e) (a.eval x) := by
  cases x with
  | tmp t => simp [opnd] at h; subst h; exact r.val t
  | const v =>
    simp only [opnd] at h
    cases hc : constV v with
    | none => simp [hc] at h
    | some c => simp [hc] at h; subst h; exact constV_sound hc
  | global k =>
    simp only [opnd] at h
    split at h
    · rename_i hk
      injection h with h; subst h
      obtain ⟨sz, hs⟩ := hg k hk
      have := VR.ptr (φ := φ) k 0 k 0 sz hs
      simpa [ev, Act.eval] using this
    · simp at h
  | func f => simp [opnd] at h; subst h; exact .fn f [] [] #[] #[] rfl (fun i v v' h => by simp at h) rfl (fun i v v' h => by simp at h)
theorem opnds_sound {φ : Fi} {g nt : Nat} {fr : Fr} {a : Act} (hg : GlobAt φ g) (r : FR φ nt fr a.tmps) : ∀ {l : List Operand} {es : List EO}, opnds g l = some es →
    VRs φ (es.map (ev fr)) (l.map a.eval)
  | [], es, h => by simp [opnds] at h; subst h; exact .nil φ
  | x :: l, es, h => by
    simp only [opnds] at h
    split at h
    · rename_i a' as' h1 h2
      injection h with h; subst h
      exact .cons (opnd_sound hg r h1) (opnds_sound hg r h2)
    · simp at h

/-! ### The heap -/

/-- A block of the model's that bears an evaluator's block, d cells in. -/
def Bears (φ : Fi) (o : Obj) (d sz : Nat) (b : Go.Obj) : Prop :=
  match o with
  | .cells ro cs => ∃ arr e lo hi, b = .cells arr e (lo, hi) ∧ arr.size = sz ∧ d + cs.length ≤ sz ∧
      (∀ (k : Nat) v, cs[k]? = some v → ∃ v', arr[d + k]? = some v' ∧ VR φ v v') ∧ (ro = false → lo = hi ∨ arr.size ≤ lo)
  | .sit s pos => d = 0 ∧ ∃ bs, b = .stringIter bs pos ∧ ofBytes bs = s
  | .map _ => False
  | .dead => True

theorem Bears.mono {φ ψ : Fi} (h : φ.le ψ) {o : Obj} {d sz : Nat} {b : Go.Obj} (r : Bears φ o d sz b) : Bears ψ o d sz b := by
  cases o with
  | cells ro cs =>
    obtain ⟨arr, e, lo, hi, h1, h2, h3, h4, h5⟩ := r
    exact ⟨arr, e, lo, hi, h1, h2, h3, fun k v hk => let ⟨v', a, b⟩ := h4 k v hk; ⟨v', a, b.mono h⟩, h5⟩
  | sit s pos => exact r
  | map es => exact r
  | dead => trivial

def Obj.live : Obj → Bool
  | .dead => false
  | _ => true
def Obj.rw : Obj → Bool
  | .cells ro _ => !ro
  | .dead => false
  | _ => true

/-- What stands round a run: the blocks that are nobody's here, with what they hold; the memory that was there ahead; the package variables. -/
structure Around where
  F : Nat → Option Go.Obj
  B : Nat
  old : Nat → Option Go.Obj
  G : Heap

structure Inv (A : Around) (φ : Fi) (H : Heap) (hp : Array Go.Obj) : Prop where
  leB : A.B ≤ hp.size
  bnd : ∀ i b d sz, φ i = some (b, d, sz) → b < hp.size ∧ i < H.next
  obj : ∀ i, (H.get i).live = true → ∃ b d sz o, φ i = some (b, d, sz) ∧ hp[b]? = some o ∧ Bears φ (H.get i) d sz o
  sep : ∀ i j b d sz d' sz', (H.get i).rw = true → (H.get j).live = true → φ i = some (b, d, sz) → φ j = some (b, d', sz') → i = j
  frn : ∀ b o, A.F b = some o → hp[b]? = some o
  sepF : ∀ i b d sz, (H.get i).live = true → φ i = some (b, d, sz) → A.F b = none
  old : ∀ b, b < A.B → hp[b]? = A.old b
  rwB : ∀ i b d sz, (H.get i).rw = true → φ i = some (b, d, sz) → A.B ≤ b
  glb : ∀ g, g < A.G.next → H.get g = A.G.get g ∧ (A.G.get g).rw = false ∧ ∃ sz, φ g = some (g, 0, sz)

theorem Grow.le {A : Around} {φ φ' : Fi} {H H' : Heap} {hp : Array Go.Obj} (g : Grow φ H φ' H') (v : Inv A φ H hp) : φ.le φ' := by
  intro i x e
  obtain ⟨b, d, sz⟩ := x
  rw [g.2 i (v.bnd i b d sz e).2]; exact e
theorem Grow.put (φ : Fi) (H H' : Heap) (b d sz : Nat) (h : H.next ≤ H'.next) : Grow φ H (fun j => if j = H.next then some (b, d, sz) else φ j) H' :=
  ⟨h, fun i hi => by have : i ≠ H.next := by omega
                     simp [this]⟩
theorem Inv.globAt {A : Around} {φ : Fi} {H : Heap} {hp : Array Go.Obj} (v : Inv A φ H hp) : GlobAt φ A.G.next := fun k hk => (v.glb k hk).2.2
theorem Inv.dead_at_next {A : Around} {φ : Fi} {H : Heap} {hp : Array Go.Obj} (v : Inv A φ H hp) {i : Nat} (h : H.next ≤ i) : φ i = none := by
  cases e : φ i with
  | none => rfl
  | some x => obtain ⟨b, d, sz⟩ := x; have := (v.bnd i b d sz e).2; omega
theorem Inv.get_next {A : Around} {φ : Fi} {H : Heap} {hp : Array Go.Obj} (v : Inv A φ H hp) {i : Nat} (h : φ i = none) : H.get i = .dead := by
  cases hl : (H.get i).live with
  | false => cases e : H.get i <;> rw [e] at hl <;> first | rfl | simp [Obj.live] at hl
  | true => obtain ⟨b, d, sz, o, h1, _⟩ := v.obj i hl; rw [h] at h1; simp at h1
theorem Obj.rw_live {o : Obj} (h : o.rw = true) : o.live = true := by cases o <;> simp [Obj.rw, Obj.live] at h ⊢

/-- Only what is seen of the memory counts. -/
theorem Inv.congr {A : Around} {φ : Fi} {H : Heap} {hp hp' : Array Go.Obj} (v : Inv A φ H hp) (e : hp' = hp) : Inv A φ H hp' := e ▸ v

/-- New blocks behind: all stays. -/
theorem Inv.grow {A : Around} {φ : Fi} {H : Heap} {hp hp' : Array Go.Obj} (v : Inv A φ H hp) (hs : hp.size ≤ hp'.size)
    (h : ∀ b, b < hp.size → hp'[b]? = hp[b]?) : Inv A φ H hp' where
  leB := Nat.le_trans v.leB hs
  bnd i b d sz e := ⟨by have := (v.bnd i b d sz e).1; omega, (v.bnd i b d sz e).2⟩
  obj i hl := by
    obtain ⟨b, d, sz, o, h1, h2, h3⟩ := v.obj i hl
    exact ⟨b, d, sz, o, h1, by rw [h b (v.bnd i b d sz h1).1]; exact h2, h3⟩
  sep := v.sep
  frn b o hb := by
    have h1 := v.frn b o hb
    have hlt : b < hp.size := (Array.getElem?_eq_some_iff.1 h1).1
    rw [h b hlt]; exact h1
  sepF := v.sepF
  old b hb := by rw [h b (by have := v.leB; omega)]; exact v.old b hb
  rwB := v.rwB
  glb := v.glb

/-- Another map from the evaluator's blocks to the model's: one more. -/
def Fi.put (φ : Fi) (i b d sz : Nat) : Fi := fun j => if j = i then some (b, d, sz) else φ j
theorem Fi.put_same (φ : Fi) (i b d sz : Nat) : φ.put i b d sz i = some (b, d, sz) := by simp [Fi.put]
theorem Fi.put_ne (φ : Fi) (i b d sz : Nat) {j : Nat} (h : j ≠ i) : φ.put i b d sz j = φ j := by simp [Fi.put, h]
theorem Fi.le_put (φ : Fi) (i b d sz : Nat) (h : φ i = none) : φ.le (φ.put i b d sz) := by
  intro j x e
  by_cases hj : j = i
  · subst hj; rw [h] at e; simp at e
  · rw [Fi.put_ne _ _ _ _ _ hj]; exact e

theorem push_old {α : Type} (a : Array α) (x : α) (b : Nat) (h : b < a.size) : (a.push x)[b]? = a[b]? := by
  rw [Array.getElem?_push]; have : b ≠ a.size := by omega
  simp [this]
theorem push_new {α : Type} (a : Array α) (x : α) : (a.push x)[a.size]? = some x := by simp

/-- A new block. -/
theorem Inv.alloc {A : Around} {φ : Fi} {H : Heap} {hp : Array Go.Obj} (v : Inv A φ H hp) {ob : Obj} {o' : Go.Obj} {sz : Nat}
    (hb : Bears (φ.put H.next hp.size 0 sz) ob 0 sz o') : Inv A (φ.put H.next hp.size 0 sz) (H.alloc ob) (hp.push o') := by
  have hn : φ H.next = none := v.dead_at_next (Nat.le_refl _)
  have hle := Fi.le_put φ H.next hp.size 0 sz hn
  have hold : ∀ i b d s, i ≠ H.next → φ.put H.next hp.size 0 sz i = some (b, d, s) → φ i = some (b, d, s) := fun i b d s hi e => by rwa [Fi.put_ne _ _ _ _ _ hi] at e
  refine { leB := ?_, bnd := ?_, obj := ?_, sep := ?_, frn := ?_, sepF := ?_, old := ?_, rwB := ?_, glb := ?_ }
  · have := v.leB; simp; omega
  · intro i b d s e
    by_cases hi : i = H.next
    · subst hi
      rw [Fi.put_same] at e
      simp at e
      simp [Heap.alloc]; omega
    · have := v.bnd i b d s (hold i b d s hi e)
      simp [Heap.alloc]; omega
  · intro i hl
    by_cases hi : i = H.next
    · subst hi
      exact ⟨hp.size, 0, sz, o', Fi.put_same _ _ _ _ _, push_new hp o', by rw [Heap.get_alloc, if_pos rfl]; exact hb⟩
    · have hne : ¬ H.next = i := fun e => hi e.symm
      rw [Heap.get_alloc, if_neg hne] at hl ⊢
      obtain ⟨b, d, s, o, h1, h2, h3⟩ := v.obj i hl
      exact ⟨b, d, s, o, hle _ _ h1, by rw [push_old _ _ _ (v.bnd i b d s h1).1]; exact h2, h3.mono hle⟩
  · intro i j b d s d' s' hr hl h1 h2
    by_cases hi : i = H.next
    · by_cases hj : j = H.next
      · rw [hi, hj]
      · subst hi
        rw [Fi.put_same] at h1
        simp at h1
        have := (v.bnd j b d' s' (hold j b d' s' hj h2)).1
        omega
    · by_cases hj : j = H.next
      · subst hj
        rw [Fi.put_same] at h2
        simp at h2
        have := (v.bnd i b d s (hold i b d s hi h1)).1
        omega
      · rw [Heap.get_alloc, if_neg (fun e => hi e.symm)] at hr
        rw [Heap.get_alloc, if_neg (fun e => hj e.symm)] at hl
        exact v.sep i j b d s d' s' hr hl (hold i b d s hi h1) (hold j b d' s' hj h2)
  · intro b o hb'
    have h1 := v.frn b o hb'
    rw [push_old _ _ _ (Array.getElem?_eq_some_iff.1 h1).1]; exact h1
  · intro i b d s hl h1
    by_cases hi : i = H.next
    · subst hi
      rw [Fi.put_same] at h1
      simp at h1
      cases hf : A.F b with
      | none => rfl
      | some o =>
        have h2 := (Array.getElem?_eq_some_iff.1 (v.frn b o hf)).1
        omega
    · rw [Heap.get_alloc, if_neg (fun e => hi e.symm)] at hl
      exact v.sepF i b d s hl (hold i b d s hi h1)
  · intro b hb'
    rw [push_old _ _ _ (by have := v.leB; omega)]; exact v.old b hb'
  · intro i b d s hr h1
    by_cases hi : i = H.next
    · subst hi
      rw [Fi.put_same] at h1
      simp at h1
      have := v.leB; omega
    · rw [Heap.get_alloc, if_neg (fun e => hi e.symm)] at hr
      exact v.rwB i b d s hr (hold i b d s hi h1)
  · intro g hg
    obtain ⟨h1, h2, s, h3⟩ := v.glb g hg
    have hlt := (v.bnd g g 0 s h3).2
    refine ⟨by rw [Heap.get_alloc, if_neg (by omega)]; exact h1, h2, s, ?_⟩
    rw [Fi.put_ne _ _ _ _ _ (by omega)]; exact h3

/-! ### Rows of cells written -/

def putRow (arr : Array Value) : Nat → List Value → Array Value
  | _, [] => arr
  | o, v :: vs => putRow (arr.setIfInBounds o v) (o + 1) vs
theorem putRow_size : ∀ (vs : List Value) (arr : Array Value) (o : Nat), (putRow arr o vs).size = arr.size
  | [], _, _ => rfl
  | v :: vs, arr, o => by rw [putRow, putRow_size vs]; simp
theorem putRow_get : ∀ (vs : List Value) (arr : Array Value) (o : Nat), o + vs.length ≤ arr.size → ∀ k, (putRow arr o vs)[k]? = if o ≤ k ∧ k < o + vs.length then vs[k - o]? else arr[k]?
  | [], arr, o, _, k => by
    have : ¬ (o ≤ k ∧ k < o + ([] : List Value).length) := by simp
    rw [putRow, if_neg this]
  | v :: vs, arr, o, h, k => by
    simp only [List.length_cons] at h
    rw [putRow, putRow_get vs _ _ (by simp; omega)]
    by_cases h1 : o + 1 ≤ k ∧ k < o + 1 + vs.length
    · rw [if_pos h1, if_pos (by simp; omega)]
      rw [show k - o = (k - (o + 1)) + 1 by omega, List.getElem?_cons_succ]
    · rw [if_neg h1]
      by_cases h2 : o = k
      · subst h2
        have : o < arr.size := by omega
        simp [this]
      · rw [if_neg (by simp only [List.length_cons]; omega), Array.getElem?_setIfInBounds_ne h2]

theorem heap_modify {hp : Array Go.Obj} {b : Nat} {o : Go.Obj} (f : Go.Obj → Go.Obj) (h : hp[b]? = some o) : hp.modify b f = hp.setIfInBounds b (f o) := by
  apply Array.ext'
  apply List.ext_getElem?
  intro j
  obtain ⟨hlt, he⟩ := Array.getElem?_eq_some_iff.1 h
  rw [Array.getElem?_toList, Array.getElem?_toList, Array.getElem?_modify, Array.getElem?_setIfInBounds]
  by_cases e : b = j
  · subst e; simp [hlt, he]
  · simp [e]

theorem cell_of {w : World} {b : Nat} {arr : Array Value} {e : TypeId} {fz : Nat × Nat} (h : w.heap[b]? = some (.cells arr e fz)) (k : Nat) : w.cell? ⟨b, k, none⟩ = arr[k]? := by
  simp [World.cell?, h]
theorem frozen_of {w : World} {b : Nat} {arr : Array Value} {e : TypeId} {lo hi : Nat} (h : w.heap[b]? = some (.cells arr e (lo, hi))) (k : Nat) :
    w.frozen? ⟨b, k, none⟩ = (decide (lo ≤ k) && decide (k < hi)) := by
  simp [World.frozen?, h]

/-- The model's own store of a row. -/
theorem run_storeRow (P : Program) (b off : Nat) (e : TypeId) (lo hi : Nat) : ∀ (vs : List Value) (i : Nat) (arr : Array Value) (w : World),
    w.heap[b]? = some (.cells arr e (lo, hi)) → off + i + vs.length ≤ arr.size → (∀ k, k < arr.size → ¬ (lo ≤ k ∧ k < hi)) → (∀ v ∈ vs, v.oneCell' = true) →
    (storeCells ⟨b, off, none⟩ vs i).run P w = .ok () { w with heap := w.heap.setIfInBounds b (.cells (putRow arr (off + i) vs) e (lo, hi)) }
  | [], i, arr, w, hb, _, _, _ => by
    have : w.heap.setIfInBounds b (.cells arr e (lo, hi)) = w.heap := by
      apply Array.ext'
      apply List.ext_getElem?
      intro j
      rw [Array.getElem?_toList, Array.getElem?_toList, Array.getElem?_setIfInBounds]
      by_cases h : b = j
      · subst h; obtain ⟨hlt, he⟩ := Array.getElem?_eq_some_iff.1 hb; simp [hlt, he]
      · simp [h]
    simp only [storeCells, putRow, this]; rfl
  | v :: vs, i, arr, w, hb, hsz, hfz, h1 => by
    simp only [List.length_cons] at hsz
    have hadd : (⟨b, off, none⟩ : Addr).add i = ⟨b, off + i, none⟩ := by unfold Addr.add; split <;> simp_all
    have hlt : off + i < arr.size := by omega
    have hc : w.cell? ⟨b, off + i, none⟩ = some arr[off + i] := by rw [cell_of hb]; exact Array.getElem?_eq_getElem hlt
    have hf : w.frozen? ⟨b, off + i, none⟩ = false := by
      rw [frozen_of hb]
      have := hfz (off + i) hlt
      cases h : (decide (lo ≤ off + i) && decide (off + i < hi)) with
      | false => rfl
      | true => simp at h; exact absurd h this
    have hset : w.setCell ⟨b, off + i, none⟩ v = { w with heap := w.heap.setIfInBounds b (.cells (arr.setIfInBounds (off + i) v) e (lo, hi)) } := by
      unfold World.setCell
      rw [heap_modify _ hb]
      rfl
    have hst : (Go.store ((⟨b, off, none⟩ : Addr).add i) v).run P w = .ok () (w.setCell ⟨b, off + i, none⟩ v) := by
      rw [hadd, run_store P w _ v _ (h1 v (by simp))]
      simp [hc, hf]
    obtain ⟨hlb, _⟩ := Array.getElem?_eq_some_iff.1 hb
    have hb' : (w.setCell ⟨b, off + i, none⟩ v).heap[b]? = some (.cells (arr.setIfInBounds (off + i) v) e (lo, hi)) := by rw [hset]; simp [hlb]
    have ih := run_storeRow P b off e lo hi vs (i + 1) (arr.setIfInBounds (off + i) v) (w.setCell ⟨b, off + i, none⟩ v) hb' (by simp; omega) (fun k hk => hfz k (by simpa using hk)) (fun x hx => h1 x (by simp [hx]))
    simp only [storeCells, Sem.run_bind, hst, Result.andThen_ok, ih]
    rw [hset]
    simp only [putRow]
    congr 1
    simp [Nat.add_assoc]

theorem set_same {hp : Array Go.Obj} {b : Nat} {o x : Go.Obj} (h : hp[b]? = some o) : (hp.setIfInBounds b x)[b]? = some x := by
  obtain ⟨hlt, _⟩ := Array.getElem?_eq_some_iff.1 h
  simp [hlt]
theorem set_other {hp : Array Go.Obj} {b j : Nat} {x : Go.Obj} (h : b ≠ j) : (hp.setIfInBounds b x)[j]? = hp[j]? := Array.getElem?_setIfInBounds_ne h

/-- One block turned into another one at the same place. -/
theorem Inv.turn {A : Around} {φ : Fi} {H : Heap} {hp : Array Go.Obj} (v : Inv A φ H hp) {i b d sz : Nat} {ob : Obj} {o o' : Go.Obj}
    (hrw : (H.get i).rw = true) (hob : ob.rw = true) (hφ : φ i = some (b, d, sz)) (ho : hp[b]? = some o) (hb : Bears φ ob d sz o') :
    Inv A φ (H.set i ob) (hp.setIfInBounds b o') := by
  have hlive := Obj.rw_live hrw
  have other : ∀ j b' d' s', j ≠ i → (H.get j).live = true → φ j = some (b', d', s') → b ≠ b' := by
    intro j b' d' s' hj hl h1 e
    subst e
    exact hj (v.sep i j b d sz d' s' hrw hl hφ h1).symm
  refine { leB := ?_, bnd := ?_, obj := ?_, sep := ?_, frn := ?_, sepF := ?_, old := ?_, rwB := ?_, glb := ?_ }
  · simpa using v.leB
  · intro j b' d' s' e; have := v.bnd j b' d' s' e; simpa [Heap.set] using this
  · intro j hl
    rw [Heap.get_set] at hl ⊢
    by_cases hj : i = j
    · subst hj
      rw [if_pos rfl]
      exact ⟨b, d, sz, o', hφ, set_same ho, hb⟩
    · rw [if_neg hj] at hl ⊢
      obtain ⟨b', d', s', o'', h1, h2, h3⟩ := v.obj j hl
      exact ⟨b', d', s', o'', h1, by rw [set_other (other j b' d' s' (fun e => hj e.symm) hl h1)]; exact h2, h3⟩
  · intro j k b' d' s' d'' s'' hr hl h1 h2
    have hr' : (H.get j).rw = true := by
      rw [Heap.get_set] at hr
      by_cases hj : i = j
      · subst hj; exact hrw
      · rwa [if_neg hj] at hr
    have hl' : (H.get k).live = true := by
      rw [Heap.get_set] at hl
      by_cases hk : i = k
      · subst hk; exact hlive
      · rwa [if_neg hk] at hl
    exact v.sep j k b' d' s' d'' s'' hr' hl' h1 h2
  · intro b' o'' hf
    have hne : b ≠ b' := by
      intro e; subst e
      rw [v.sepF i b d sz hlive hφ] at hf
      simp at hf
    rw [set_other hne]; exact v.frn b' o'' hf
  · intro j b' d' s' hl h1
    have hl' : (H.get j).live = true := by
      rw [Heap.get_set] at hl
      by_cases hk : i = j
      · subst hk; exact hlive
      · rwa [if_neg hk] at hl
    exact v.sepF j b' d' s' hl' h1
  · intro b' hlt
    rw [set_other (by have := v.rwB i b d sz hrw hφ; omega)]; exact v.old b' hlt
  · intro j b' d' s' hr h1
    have hr' : (H.get j).rw = true := by
      rw [Heap.get_set] at hr
      by_cases hj : i = j
      · subst hj; exact hrw
      · rwa [if_neg hj] at hr
    exact v.rwB j b' d' s' hr' h1
  · intro g hg
    obtain ⟨h1, h2, h3⟩ := v.glb g hg
    refine ⟨?_, h2, h3⟩
    rw [Heap.get_set]
    by_cases hj : i = g
    · subst hj; rw [h1] at hrw; rw [hrw] at h2; simp at h2
    · rw [if_neg hj]; exact h1

/-- A block is given up. -/
theorem Inv.kill {A : Around} {φ : Fi} {H : Heap} {hp : Array Go.Obj} (v : Inv A φ H hp) {i : Nat} (hrw : (H.get i).rw = true) : Inv A φ (H.set i .dead) hp := by
  have live_of : ∀ j, ((H.set i .dead).get j).live = true → j ≠ i ∧ (H.get j).live = true := by
    intro j hl
    rw [Heap.get_set] at hl
    by_cases hj : i = j
    · simp [hj, Obj.live] at hl
    · rw [if_neg hj] at hl; exact ⟨fun e => hj e.symm, hl⟩
  have get_of : ∀ j, j ≠ i → (H.set i .dead).get j = H.get j := fun j hj => by rw [Heap.get_set, if_neg (fun e => hj e.symm)]
  refine { leB := v.leB, bnd := v.bnd, obj := ?_, sep := ?_, frn := v.frn, sepF := ?_, old := v.old, rwB := ?_, glb := ?_ }
  · intro j hl
    obtain ⟨hj, hl'⟩ := live_of j hl
    rw [get_of j hj]; exact v.obj j hl'
  · intro j k b d s d' s' hr hl h1 h2
    obtain ⟨hj, _⟩ := live_of j (Obj.rw_live hr)
    obtain ⟨hk, hl'⟩ := live_of k hl
    rw [get_of j hj] at hr
    exact v.sep j k b d s d' s' hr hl' h1 h2
  · intro j b d s hl h1; exact v.sepF j b d s (live_of j hl).2 h1
  · intro j b d s hr h1
    obtain ⟨hj, _⟩ := live_of j (Obj.rw_live hr)
    rw [get_of j hj] at hr
    exact v.rwB j b d s hr h1
  · intro g hg
    obtain ⟨h1, h2, h3⟩ := v.glb g hg
    refine ⟨?_, h2, h3⟩
    by_cases hj : g = i
    · subst hj; rw [h1] at hrw; rw [hrw] at h2; simp at h2
    · rw [get_of g hj]; exact h1

end Go.Ev
