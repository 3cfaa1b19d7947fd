/- The quick run: values, cells, operations. No program in sight. -/
import Derived.Test.YtdalcnjdpfnjjaaGreatDoorFasA
set_option linter.unusedSimpArgs false
set_option linter.unusedVariables false
namespace Go.Ev
open Go
noncomputable section

def SV.boolK {β : Type} (v : SV) (f : Bool → β) (d : β) : β := SV.rec (motive_1 := fun _ => β) (motive_2 := fun _ => PUnit) (fun a => f a) (fun _ _ => d) (fun _ => d) d (fun _ _ => d) d (fun _ _ _ _ _ => d) (fun _ _ _ _ _ => d) d (fun _ _ _ => d) d d (fun _ => d) (fun _ _ => d) (fun _ _ => d) PUnit.unit (fun _ _ _ _ => PUnit.unit) v
def SV.intK {β : Type} (v : SV) (f : IntKind → SI → β) (d : β) : β := SV.rec (motive_1 := fun _ => β) (motive_2 := fun _ => PUnit) (fun _ => d) (fun a b => f a b) (fun _ => d) d (fun _ _ => d) d (fun _ _ _ _ _ => d) (fun _ _ _ _ _ => d) d (fun _ _ _ => d) d d (fun _ => d) (fun _ _ => d) (fun _ _ => d) PUnit.unit (fun _ _ _ _ => PUnit.unit) v
def SV.strK {β : Type} (v : SV) (f : SS → β) (d : β) : β := SV.rec (motive_1 := fun _ => β) (motive_2 := fun _ => PUnit) (fun _ => d) (fun _ _ => d) (fun a => f a) d (fun _ _ => d) d (fun _ _ _ _ _ => d) (fun _ _ _ _ _ => d) d (fun _ _ _ => d) d d (fun _ => d) (fun _ _ => d) (fun _ _ => d) PUnit.unit (fun _ _ _ _ => PUnit.unit) v
def SV.ptrK {β : Type} (v : SV) (f : Nat → Nat → β) (d : β) : β := SV.rec (motive_1 := fun _ => β) (motive_2 := fun _ => PUnit) (fun _ => d) (fun _ _ => d) (fun _ => d) d (fun a b => f a b) d (fun _ _ _ _ _ => d) (fun _ _ _ _ _ => d) d (fun _ _ _ => d) d d (fun _ => d) (fun _ _ => d) (fun _ _ => d) PUnit.unit (fun _ _ _ _ => PUnit.unit) v
def SV.slK {β : Type} (v : SV) (f : Nat → Nat → SI → Nat → Bool → β) (d : β) : β := SV.rec (motive_1 := fun _ => β) (motive_2 := fun _ => PUnit) (fun _ => d) (fun _ _ => d) (fun _ => d) d (fun _ _ => d) d (fun a b c d e => f a b c d e) (fun _ _ _ _ _ => d) d (fun _ _ _ => d) d d (fun _ => d) (fun _ _ => d) (fun _ _ => d) PUnit.unit (fun _ _ _ _ => PUnit.unit) v
def SV.fnK {β : Type} (v : SV) (f : FuncId → List SV → List SV → β) (d : β) : β := SV.rec (motive_1 := fun _ => β) (motive_2 := fun _ => PUnit) (fun _ => d) (fun _ _ => d) (fun _ => d) d (fun _ _ => d) d (fun _ _ _ _ _ => d) (fun a b c _ _ => f a b c) d (fun _ _ _ => d) d d (fun _ => d) (fun _ _ => d) (fun _ _ => d) PUnit.unit (fun _ _ _ _ => PUnit.unit) v
def SV.ifaceK {β : Type} (v : SV) (f : TypeId → SV → β) (d : β) : β := SV.rec (motive_1 := fun _ => β) (motive_2 := fun _ => PUnit) (fun _ => d) (fun _ _ => d) (fun _ => d) d (fun _ _ => d) d (fun _ _ _ _ _ => d) (fun _ _ _ _ _ => d) d (fun a b _ => f a b) d d (fun _ => d) (fun _ _ => d) (fun _ _ => d) PUnit.unit (fun _ _ _ _ => PUnit.unit) v
def SV.aggK {β : Type} (v : SV) (f : List SV → β) (d : β) : β := SV.rec (motive_1 := fun _ => β) (motive_2 := fun _ => PUnit) (fun _ => d) (fun _ _ => d) (fun _ => d) d (fun _ _ => d) d (fun _ _ _ _ _ => d) (fun _ _ _ _ _ => d) d (fun _ _ _ => d) d d (fun _ => d) (fun a _ => f a) (fun _ _ => d) PUnit.unit (fun _ _ _ _ => PUnit.unit) v
def SV.tupK {β : Type} (v : SV) (f : List SV → β) (d : β) : β := SV.rec (motive_1 := fun _ => β) (motive_2 := fun _ => PUnit) (fun _ => d) (fun _ _ => d) (fun _ => d) d (fun _ _ => d) d (fun _ _ _ _ _ => d) (fun _ _ _ _ _ => d) d (fun _ _ _ => d) d d (fun _ => d) (fun _ _ => d) (fun a _ => f a) PUnit.unit (fun _ _ _ _ => PUnit.unit) v
def SObj.cellsK {β : Type} (o : SObj) (f : Bool → List SV → β) (d : β) : β := SObj.rec (motive := fun _ => β) (fun a b => f a b) (fun _ _ => d) d o
def SI.litK {β : Type} (v : SI) (f : Int → β) (d : β) : β := SI.rec (motive := fun _ => β) (fun n => f n) (fun _ => d) (fun _ _ _ _ _ _ => d) (fun _ _ _ => d) (fun _ _ _ => d) (fun _ _ => d) (fun _ _ _ _ => d) v

/-! ### Runs -/
namespace SM
variable {α β : Type}
theorem bind_ret (a : α) (g : α → SM β) : (SM.ret a).bind g = g a := by
  funext Th F; rw [bind_eq]; rfl
theorem bind_fail (g : α → SM β) : (SM.fail : SM α).bind g = .fail := by
  funext Th F; rw [bind_eq]; rfl
theorem ofOpt_some (a : α) : SM.ofOpt (some a) = .ret a := rfl
theorem ofOpt_none : (SM.ofOpt none : SM α) = .fail := rfl
end SM

/-! ### Lists -/
def nthF {β : Type} (n : Nat) (l : List SV) (f : SV → β) (d : β) : β :=
  Nat.rec (motive := fun _ => List SV → β) (fun l => List.rec (motive := fun _ => β) d (fun a _ _ => f a) l) (fun _ ih l => List.rec (motive := fun _ => β) d (fun _ r _ => ih r) l) n l
theorem nthF_eq {β : Type} (f : SV → β) (d : β) : ∀ (n : Nat) (l : List SV), nthF n l f d = match l[n]? with | some v => f v | none => d
  | 0, [] => rfl
  | 0, _ :: _ => rfl
  | n + 1, [] => rfl
  | n + 1, a :: l => by
    have : nthF (n + 1) (a :: l) f d = nthF n l f d := rfl
    rw [this, nthF_eq f d n l, List.getElem?_cons_succ]
def lenF {α : Type} (l : List α) : Nat := List.rec (motive := fun _ => Nat) 0 (fun _ _ ih => Nat.succ ih) l
theorem lenF_eq {α : Type} : ∀ l : List α, lenF l = l.length
  | [] => rfl
  | _ :: l => by show Nat.succ (lenF l) = _; rw [lenF_eq l]; rfl
def dropF (n : Nat) (l : List SV) : List SV :=
  Nat.rec (motive := fun _ => List SV → List SV) (fun l => l) (fun _ ih l => List.rec (motive := fun _ => List SV) [] (fun _ r _ => ih r) l) n l
theorem dropF_eq : ∀ (n : Nat) (l : List SV), dropF n l = l.drop n
  | 0, l => rfl
  | n + 1, [] => rfl
  | n + 1, _ :: l => by show dropF n l = _; rw [dropF_eq n l]; rfl
def takeF (n : Nat) (l : List SV) : List SV :=
  Nat.rec (motive := fun _ => List SV → List SV) (fun _ => []) (fun _ ih l => List.rec (motive := fun _ => List SV) [] (fun a r _ => a :: ih r) l) n l
theorem takeF_eq : ∀ (n : Nat) (l : List SV), takeF n l = l.take n
  | 0, l => by show ([] : List SV) = _; simp
  | n + 1, [] => rfl
  | n + 1, a :: l => by show a :: takeF n l = _; rw [takeF_eq n l]; rfl
def appF (a b : List SV) : List SV := List.rec (motive := fun _ => List SV) b (fun x _ ih => x :: ih) a
theorem appF_eq : ∀ (a b : List SV), appF a b = a ++ b
  | [], b => rfl
  | x :: a, b => by show x :: appF a b = _; rw [appF_eq a b]; rfl
def isCellF (v : SV) : Bool := SV.rec (motive_1 := fun _ => Bool) (motive_2 := fun _ => PUnit) (fun _ => true) (fun _ _ => true) (fun _ => true) true (fun _ _ => true) true (fun _ _ _ _ _ => true) (fun _ _ _ _ _ => true) true (fun _ _ _ => true) true true (fun _ => true) (fun _ _ => false) (fun _ _ => false) PUnit.unit (fun _ _ _ _ => PUnit.unit) v
theorem isCellF_eq (v : SV) : isCellF v = v.isCell := by cases v <;> rfl
def allCellF (l : List SV) : Bool := List.rec (motive := fun _ => Bool) true (fun a _ ih => Bool.rec (motive := fun _ => Bool) false ih (isCellF a)) l
theorem allCellF_eq : ∀ l : List SV, allCellF l = l.all SV.isCell
  | [] => rfl
  | a :: l => by
    show Bool.rec (motive := fun _ => Bool) false (allCellF l) (isCellF a) = _
    rw [List.all_cons, isCellF_eq, allCellF_eq l]
    cases a.isCell <;> rfl
def cellsF (v : SV) : List SV := SV.aggK v (fun l => l) [v]
theorem cellsF_eq (v : SV) : cellsF v = v.cells := by cases v <;> rfl
/-- One cell put in; none: there is no such place. -/
def set1F (v : SV) (n : Nat) (l : List SV) : Option (List SV) :=
  Nat.rec (motive := fun _ => List SV → Option (List SV)) (fun l => List.rec (motive := fun _ => Option (List SV)) none (fun _ r _ => some (v :: r)) l)
    (fun _ ih l => List.rec (motive := fun _ => Option (List SV)) none (fun a r _ => Option.rec (motive := fun _ => Option (List SV)) none (fun r' => some (a :: r')) (ih r)) l) n l
theorem set1F_eq (v : SV) : ∀ (n : Nat) (l : List SV), set1F v n l = if n + 1 ≤ l.length then some (l.take n ++ [v] ++ l.drop (n + 1)) else none
  | 0, [] => rfl
  | 0, a :: r => by
    have e : set1F v 0 (a :: r) = some (v :: r) := rfl
    rw [e, if_pos (by simp)]; simp
  | n + 1, [] => rfl
  | n + 1, a :: r => by
    have e : set1F v (n + 1) (a :: r) = Option.rec (motive := fun _ => Option (List SV)) none (fun r' => some (a :: r')) (set1F v n r) := rfl
    rw [e, set1F_eq v n r]
    by_cases h : n + 1 ≤ r.length
    · rw [if_pos h, if_pos (by simpa using h)]; simp
    · rw [if_neg h, if_neg (by simpa using h)]
def andF (a b : Bool) : Bool := Bool.rec (motive := fun _ => Bool) false b a
theorem andF_eq (a b : Bool) : andF a b = (a && b) := by cases a <;> rfl

/-! ### The heap -/
def getH (H : SHeap) (i : Nat) : SObj := Option.rec (motive := fun _ => SObj) .dead (fun o => o) (H.t.getP (pa i))
theorem getH_eq (H : SHeap) (i : Nat) : getH H i = H.get i := by
  unfold getH SHeap.get; rw [T.getPa]; cases H.t.getF i <;> rfl
def setH (H : SHeap) (i : Nat) (o : SObj) : SHeap := { next := H.next, t := H.t.setP o (pa i) }
theorem setH_eq (H : SHeap) (i : Nat) (o : SObj) : setH H i o = H.set i o := by unfold setH SHeap.set; rw [T.setPa]
/-- nid: where it goes. -/
def allocH (H : SHeap) (nid : Nat) (o : SObj) : SHeap := { next := Nat.succ nid, t := H.t.setP o (pa nid) }
theorem allocH_eq (H : SHeap) (o : SObj) : allocH H H.next o = H.alloc o := by unfold allocH SHeap.alloc; rw [T.setPa]

def ld1F {β : Type} (a : SV) (H : SHeap) (f : SV → β) (d : β) : β := a.ptrK (fun i o => (getH H i).cellsK (fun _ cs => nthF o cs f d) d) d
def storeF (H : SHeap) (a : SV) (n : Nat) (v : SV) : Option SHeap :=
  a.ptrK (fun i o => (getH H i).cellsK (fun ro cs => Bool.rec (motive := fun _ => Option SHeap)
    (Bool.rec (motive := fun _ => Option SHeap)
      (Bool.rec (motive := fun _ => Option SHeap) none (some (setH H i (.cells false (appF (takeF o cs) (appF (cellsF v) (dropF (Nat.add o n) cs))))))
        (andF (Nat.beq (lenF (cellsF v)) n) (andF (Nat.ble (Nat.add o n) (lenF cs)) (allCellF (cellsF v)))))
      (Option.rec (motive := fun _ => Option SHeap) none (fun cs' => some (setH H i (.cells false cs'))) (set1F v o cs))
      (andF (Nat.beq n 1) (isCellF v)))
    none ro) none) none

theorem beq_dec (a b : Nat) : Nat.beq a b = decide (a = b) := by
  by_cases h : a = b
  · subst h; simp
  · cases hb : Nat.beq a b with
    | false => simp [h]
    | true => exact absurd (Nat.eq_of_beq_eq_true hb) h
theorem boolRec_if {β : Type} (a b : β) (c : Bool) : Bool.rec (motive := fun _ => β) a b c = if c = true then b else a := by cases c <;> rfl
theorem ld1F_eq {β : Type} (a : SV) (H : SHeap) (f : SV → β) (d : β) : ld1F a H f d = match (match a with
    | .ptr i o => match H.get i with
      | .cells _ cs => cs[o]?
      | _ => none
    | _ => none) with
    | some v => f v
    | none => d := by
  cases a with
  | ptr i o =>
    show (getH H i).cellsK _ d = _
    rw [getH_eq]
    cases h : H.get i with
    | cells ro cs => show nthF o cs f d = _; rw [nthF_eq]; simp only [h]
    | _ => simp only [h]; rfl
  | _ => rfl
theorem storeF_eq (H : SHeap) (a : SV) (n : Nat) (v : SV) : storeF H a n v = storeS H a n v.cells := by
  cases a with
  | ptr i o =>
    show (getH H i).cellsK _ none = _
    rw [getH_eq]
    unfold storeS
    cases h : H.get i with
    | cells ro cs =>
      cases ro with
      | true => simp only [h]; rfl
      | false =>
        simp only [h]
        show Bool.rec (motive := fun _ => Option SHeap) _ _ (andF (Nat.beq n 1) (isCellF v)) = _
        rw [boolRec_if, andF_eq]
        by_cases hc : n = 1 ∧ v.isCell = true
        · obtain ⟨rfl, hc⟩ := hc
          rw [if_pos (by simp [isCellF_eq, hc])]
          have hcs : v.cells = [v] := by cases v <;> simp [SV.isCell, SV.cells] at hc ⊢
          rw [set1F_eq, hcs]
          by_cases hle : o + 1 ≤ cs.length
          · rw [if_pos hle, if_pos ⟨rfl, hle, by simp [hc]⟩]
            show some (setH H i _) = _
            rw [setH_eq]
          · rw [if_neg hle, if_neg (fun h => hle h.2.1)]
        · rw [if_neg (by rw [isCellF_eq, beq_dec]; simpa using hc)]
          rw [boolRec_if]
          simp only [andF_eq, beq_dec, lenF_eq, cellsF_eq, ble_dec, allCellF_eq, setH_eq, appF_eq, takeF_eq, dropF_eq, Bool.and_eq_true, decide_eq_true_eq, Nat.add_eq, List.append_assoc]
    | _ => simp only [h]; rfl
  | _ => rfl

/-! ### Operands -/
def evB (x : EO) : Bx (SFr → SV) :=
  EO.rec (motive := fun _ => Bx (SFr → SV)) (fun n => ⟨fun fr => Option.rec (motive := fun _ => SV) (.tup []) (fun v => v) (fr.getP (pa n))⟩) (fun v => ⟨fun _ => ofV v⟩) x
theorem evB_eq (x : EO) (fr : SFr) : (evB x).run fr = evS fr x := by
  cases x with
  | t n => show Option.rec (motive := fun _ => SV) (.tup []) (fun v => v) (fr.getP (pa n)) = _; rw [T.getPa]; rfl
  | c v => rfl
def evsB (l : List EO) : Bx (SFr → List SV) := List.rec (motive := fun _ => Bx (SFr → List SV)) ⟨fun _ => []⟩ (fun x _ ih => ⟨fun fr => (evB x).run fr :: ih.run fr⟩) l
theorem evsB_eq : ∀ (l : List EO) (fr : SFr), (evsB l).run fr = l.map (evS fr)
  | [], fr => rfl
  | x :: l, fr => by
    show (evB x).run fr :: (evsB l).run fr = _
    rw [evB_eq, evsB_eq l]; rfl
def putB (d : Option Nat) : Bx (SFr → SV → SFr) := Option.rec (motive := fun _ => Bx (SFr → SV → SFr)) ⟨fun fr _ => fr⟩ (fun d => ⟨fun fr v => fr.setP v (pa d)⟩) d
theorem putB_eq (d : Option Nat) (fr : SFr) (v : SV) : (putB d).run fr v = putS fr d v := by
  cases d with
  | none => rfl
  | some d => show fr.setP v (pa d) = _; rw [T.setPa]; rfl
def wantB (t : Nat) (b : Bool) : Bx (SFr → Bool) :=
  Bool.rec (motive := fun _ => Bx (SFr → Bool)) ⟨fun fr => Option.rec (motive := fun _ => Bool) false (fun v => v.boolK (fun c => Bool.rec (motive := fun _ => Bool) true false c) false) (fr.getP (pa t))⟩
    ⟨fun fr => Option.rec (motive := fun _ => Bool) false (fun v => v.boolK (fun c => c) false) (fr.getP (pa t))⟩ b
theorem wantB_eq (t : Nat) (b : Bool) (fr : SFr) (o : EOper) (h : o.guard = some (t, b)) : (wantB t b).run fr = wantedS o fr := by
  unfold wantedS
  rw [h]
  cases b with
  | false =>
    show Option.rec (motive := fun _ => Bool) false _ (fr.getP (pa t)) = _
    rw [T.getPa]
    cases hg : fr.getF t with
    | none => simp only [hg]
    | some v =>
      cases v with
      | bool c => cases c <;> simp only [hg] <;> rfl
      | _ => simp only [hg] <;> rfl
  | true =>
    show Option.rec (motive := fun _ => Bool) false _ (fr.getP (pa t)) = _
    rw [T.getPa]
    cases hg : fr.getF t with
    | none => simp only [hg]
    | some v =>
      cases v with
      | bool c => cases c <;> simp only [hg] <;> rfl
      | _ => simp only [hg] <;> rfl

/-! ### Worked out at once -/
namespace T
variable {α β : Type}
def setK (v : α) (p : Pa) : T α → (T α → β) → β :=
  Pa.rec (motive := fun _ => T α → (T α → β) → β) (fun t k => T.rec (motive := fun _ => β) (k (.node (some v) .nil .nil)) (fun _ l r _ _ => k (.node (some v) l r)) t)
    (fun _ ih t k => T.rec (motive := fun _ => β) (ih .nil (fun l' => k (.node none l' .nil))) (fun o l r _ _ => ih l (fun l' => k (.node o l' r))) t)
    (fun _ ih t k => T.rec (motive := fun _ => β) (ih .nil (fun r' => k (.node none .nil r'))) (fun o l r _ _ => ih r (fun r' => k (.node o l r'))) t) p
theorem setK_eq (v : α) : ∀ (p : Pa) (t : T α) (k : T α → β), setK v p t k = k (t.setP v p)
  | .e, t, k => by cases t <;> rfl
  | .l p, t, k => by
    cases t with
    | nil => show setK v p .nil _ = _; rw [setK_eq v p]; rfl
    | node o l r => show setK v p l _ = _; rw [setK_eq v p]; rfl
  | .r p, t, k => by
    cases t with
    | nil => show setK v p .nil _ = _; rw [setK_eq v p]; rfl
    | node o l r => show setK v p r _ = _; rw [setK_eq v p]; rfl
end T
def forceB {β : Type} (b : Bool) (f : Bool → β) : β := Bool.rec (motive := fun _ => β) (f false) (f true) b
theorem forceB_eq {β : Type} (b : Bool) (f : Bool → β) : forceB b f = f b := by cases b <;> rfl
def forceV {β : Type} (v : SV) (f : SV → β) : β := SV.rec (motive_1 := fun _ => β) (motive_2 := fun _ => PUnit) (fun b => forceB b fun b => f (.bool b)) (fun k n => f (.int k n)) (fun s => f (.str s)) (f .nilp) (fun i o => f (.ptr i o)) (f .nils)
  (fun i o n es u => f (.sl i o n es u)) (fun g a b _ _ => f (.fn g a b)) (f .nilFn) (fun t v _ => f (.iface t v)) (f .nilI) (f .nilm) (fun i => f (.map i)) (fun l _ => f (.agg l)) (fun l _ => f (.tup l)) PUnit.unit (fun _ _ _ _ => PUnit.unit) v
theorem forceV_eq {β : Type} (v : SV) (f : SV → β) : forceV v f = f v := by
  cases v with
  | bool b => exact forceB_eq b (fun b => f (.bool b))
  | _ => rfl
def putK {β : Type} (d : Option Nat) : Bx (SFr → SV → (SFr → β) → β) :=
  Option.rec (motive := fun _ => Bx (SFr → SV → (SFr → β) → β)) ⟨fun fr _ k => k fr⟩ (fun d => ⟨fun fr v k => forceV v fun v => fr.setK v (pa d) k⟩) d
theorem putK_eq {β : Type} (d : Option Nat) (fr : SFr) (v : SV) (k : SFr → β) : (putK d).run fr v k = k (putS fr d v) := by
  cases d with
  | none => rfl
  | some d =>
    show forceV v (fun v => fr.setK v (pa d) k) = _
    rw [forceV_eq, T.setK_eq, T.setPa]; rfl
def allocK {β : Type} (H : SHeap) (nid : Nat) (o : SObj) (k : SHeap → β) : β := H.t.setK o (pa nid) fun t => forceN (Nat.succ nid) fun n => k { next := n, t := t }
theorem allocK_eq {β : Type} (H : SHeap) (o : SObj) (k : SHeap → β) : allocK H H.next o k = k (H.alloc o) := by
  unfold allocK SHeap.alloc; rw [T.setK_eq, forceN_eq, T.setPa]
def setHK {β : Type} (H : SHeap) (i : Nat) (o : SObj) (k : SHeap → β) : β := H.t.setK o (pa i) fun t => forceN H.next fun n => k { next := n, t := t }
theorem setHK_eq {β : Type} (H : SHeap) (i : Nat) (o : SObj) (k : SHeap → β) : setHK H i o k = k (H.set i o) := by
  unfold setHK SHeap.set; rw [T.setK_eq, forceN_eq, T.setPa]
/-- The first ones, each in its place at once. -/
def takeK {β : Type} (n : Nat) : List SV → (List SV → β) → β :=
  Nat.rec (motive := fun _ => List SV → (List SV → β) → β) (fun _ k => k []) (fun _ ih l k => List.rec (motive := fun _ => β) (k []) (fun a r _ => ih r (fun r' => k (a :: r'))) l) n
theorem takeK_eq {β : Type} : ∀ (n : Nat) (l : List SV) (k : List SV → β), takeK n l k = k (l.take n)
  | 0, l, k => by show k [] = _; simp
  | n + 1, [], k => rfl
  | n + 1, a :: l, k => by show takeK n l _ = _; rw [takeK_eq n l]; rfl
def dropK {β : Type} (n : Nat) : List SV → (List SV → β) → β :=
  Nat.rec (motive := fun _ => List SV → (List SV → β) → β) (fun l k => k l) (fun _ ih l k => List.rec (motive := fun _ => β) (k []) (fun _ r _ => ih r k) l) n
theorem dropK_eq {β : Type} : ∀ (n : Nat) (l : List SV) (k : List SV → β), dropK n l k = k (l.drop n)
  | 0, l, k => rfl
  | n + 1, [], k => rfl
  | n + 1, a :: l, k => by show dropK n l k = _; rw [dropK_eq n l]; rfl
def appK {β : Type} (a b : List SV) (k : List SV → β) : β := List.rec (motive := fun _ => (List SV → β) → β) (fun k => k b) (fun x _ ih k => ih (fun r => k (x :: r))) a k
theorem appK_eq {β : Type} : ∀ (a b : List SV) (k : List SV → β), appK a b k = k (a ++ b)
  | [], b, k => rfl
  | x :: a, b, k => by show appK a b _ = _; rw [appK_eq a b]; rfl
def ldnF {β : Type} (n : Nat) (a : SV) (H : SHeap) (f : SV → β) (d : β) : β :=
  a.ptrK (fun i o => (getH H i).cellsK (fun _ cs => Bool.rec (motive := fun _ => β) d (dropK o cs fun x => takeK n x fun l => f (.agg l)) (Nat.ble (Nat.add o n) (lenF cs))) d) d
def storeK {β : Type} (H : SHeap) (a : SV) (n : Nat) (v : SV) (k : SHeap → β) (d : β) : β :=
  a.ptrK (fun i o => (getH H i).cellsK (fun ro cs => Bool.rec (motive := fun _ => β)
    (Bool.rec (motive := fun _ => β)
      (Bool.rec (motive := fun _ => β) d (takeK o cs fun x => dropK (Nat.add o n) cs fun y => appK (cellsF v) y fun y => appK x y fun cs' => setHK H i (.cells false cs') k)
        (andF (Nat.beq (lenF (cellsF v)) n) (andF (Nat.ble (Nat.add o n) (lenF cs)) (allCellF (cellsF v)))))
      (Option.rec (motive := fun _ => β) d (fun cs' => setHK H i (.cells false cs') k) (set1F v o cs))
      (andF (Nat.beq n 1) (isCellF v)))
    d ro) d) d
theorem storeK_eq {β : Type} (H : SHeap) (a : SV) (n : Nat) (v : SV) (k : SHeap → β) (d : β) : storeK H a n v k d = match storeS H a n v.cells with | some H' => k H' | none => d := by
  rw [← storeF_eq]
  cases a with
  | ptr i o =>
    show (getH H i).cellsK _ d = match (getH H i).cellsK _ none with | some H' => k H' | none => d
    cases getH H i with
    | cells ro cs =>
      cases ro with
      | true => rfl
      | false =>
        show Bool.rec (motive := fun _ => β) _ _ (andF (Nat.beq n 1) (isCellF v)) = match Bool.rec (motive := fun _ => Option SHeap) _ _ (andF (Nat.beq n 1) (isCellF v)) with | some H' => k H' | none => d
        cases andF (Nat.beq n 1) (isCellF v) with
        | true =>
          show Option.rec (motive := fun _ => β) d (fun cs' => setHK H i (.cells false cs') k) (set1F v o cs) = match Option.rec (motive := fun _ => Option SHeap) none (fun cs' => some (setH H i (.cells false cs'))) (set1F v o cs) with | some H' => k H' | none => d
          cases set1F v o cs with
          | none => rfl
          | some cs' => show setHK H i _ k = k (setH H i _); rw [setHK_eq, setH_eq]
        | false =>
          show Bool.rec (motive := fun _ => β) _ _ (andF (Nat.beq (lenF (cellsF v)) n) (andF (Nat.ble (o + n) (lenF cs)) (allCellF (cellsF v)))) = match Bool.rec (motive := fun _ => Option SHeap) _ _ (andF (Nat.beq (lenF (cellsF v)) n) (andF (Nat.ble (o + n) (lenF cs)) (allCellF (cellsF v)))) with | some H' => k H' | none => d
          cases andF (Nat.beq (lenF (cellsF v)) n) (andF (Nat.ble (o + n) (lenF cs)) (allCellF (cellsF v))) with
          | false => rfl
          | true =>
            show takeK o cs _ = k (setH H i _)
            rw [takeK_eq, dropK_eq, appK_eq, appK_eq, setHK_eq, setH_eq, appF_eq, appF_eq, takeF_eq, dropF_eq]
            try rfl
    | _ => rfl
  | _ => rfl
end
end Go.Ev
