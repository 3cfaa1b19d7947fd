/- The quick run: regions, code, calls; a law by one quick run. No program in sight. -/
import Derived.Test.YtdalcnjdpfnjjaaGreatDoorFasD
set_option linter.unusedSimpArgs false
set_option linter.unusedVariables false
namespace Go.Ev
open Go
noncomputable section

def quB' (op : EOp) : Bx (SPure → SFr → SHeap → Nat → SM (SV × Option SObj)) :=
  match op with
  | .pcall f args => ⟨fun ps fr H nid => (ps f ((evsB args).run fr)).bind fun v => .ret (v, none)⟩
  | op => ⟨fun _ fr H nid => (quB op).run fr H nid⟩
theorem quB'_eq (op : EOp) (ps : SPure) (fr : SFr) (H : SHeap) (nid : Nat) : (quB' op).run ps fr H nid = qopS' ps op fr H nid := by
  cases op with
  | pcall f args => simp only [quB', qopS', evsB_eq]
  | _ => simp only [quB', qopS']; exact quB_eq _ fr H nid
def loB (op : EOp) : Bx (SCall → SFr → SHeap → SM (SV × SHeap)) :=
  match op with
  | .st n a v => ⟨fun cs fr H => storeK H ((evB a).run fr) n ((evB v).run fr) (fun H' => .ret (.tup [], H')) .fail⟩
  | .call f args => ⟨fun cs fr H => cs f ((evsB args).run fr) H⟩
  | op => ⟨fun cs fr H => lopS cs op fr H⟩
theorem loB_eq (op : EOp) (cs : SCall) (fr : SFr) (H : SHeap) : (loB op).run cs fr H = lopS cs op fr H := by
  cases op with
  | st n a v =>
    simp only [loB, lopS, storeK_eq, evB_eq]
    cases storeS H (evS fr a) n (evS fr v).cells <;> rfl
  | call f args => simp only [loB, lopS, evsB_eq]
  | _ => simp only [loB]
def wB (g : Option (Nat × Bool)) : Bx (SFr → Bool) := Option.rec (motive := fun _ => Bx (SFr → Bool)) ⟨fun _ => true⟩ (fun g => wantB g.1 g.2) g
theorem wB_eq (o : EOper) (fr : SFr) : (wB o.guard).run fr = wantedS o fr := by
  cases h : o.guard with
  | none => unfold wantedS; rw [h]; rfl
  | some g => obtain ⟨t, b⟩ := g; exact wantB_eq t b fr o h

/-- The same value, seen at once where it is plain. -/
def sameV (a b : SV) : Bool :=
  a.intK (fun k x => b.intK (fun l y => x.litK (fun x' => y.litK (fun y' => andF (kEq k l) (eqZ x' y')) (SV.beq a b)) (SV.beq a b)) (SV.beq a b))
    (a.ptrK (fun i o => b.ptrK (fun j p => andF (Nat.beq i j) (Nat.beq o p)) (SV.beq a b)) (SV.beq a b))
theorem sameV_eq (a b : SV) : sameV a b = SV.beq a b := by
  cases a with
  | int k x =>
    cases b with
    | int l y =>
      cases x with
      | lit x =>
        cases y with
        | lit y =>
          show andF (kEq k l) (eqZ x y) = _
          rw [andF_eq, kEq_eq, eqZ_eq]; simp only [SV.beq, SI.beq]
        | _ => rfl
      | _ => rfl
    | _ => rfl
  | ptr i o =>
    cases b with
    | ptr j p =>
      show andF _ _ = _
      rw [andF_eq]; simp only [SV.beq]
    | _ => rfl
  | _ => rfl
def okF (ps : SPure) (op : EOp) (fr : SFr) (nid : Nat) (v : SV) (b : Option SObj) (H : SHeap) : SM Unit :=
  ((quB' op).run ps fr H nid).bind fun r => SM.test (sameV v r.1 && sameBS b r.2)
theorem okF_eq (ps : SPure) (op : EOp) (fr : SFr) (nid : Nat) (v : SV) (b : Option SObj) (H : SHeap) : okF ps op fr nid v b H = okAtS ps op fr nid v b H := by
  unfold okF okAtS
  simp only [quB'_eq, sameV_eq]
def allF {α : Type} (f : α → SM Unit) (l : List α) : SM Unit := List.rec (motive := fun _ => SM Unit) (.ret ()) (fun a _ ih => (f a).bind fun _ => ih) l
theorem allF_eq {α : Type} (f : α → SM Unit) : ∀ l : List α, allF f l = allS f l
  | [] => rfl
  | a :: l => by show (f a).bind (fun _ => allF f l) = _; rw [allF_eq f l]; rfl

abbrev Dr := SCall → SPure → Nat → SFr → SHeap → List SHeap → Nat → List (Nat × Nat × SObj) → List SRec → SM (SFr × SHeap)
def drStep (o : EOper) (k : Bx Dr) : Bx Dr :=
  Bool.rec (motive := fun _ => Bx Dr)
    ⟨fun cs ps base fr H Hs m pend watch => Bool.rec (motive := fun _ => SM (SFr × SHeap)) ((putK o.dst).run fr (.tup []) fun fr => k.run cs ps base fr H Hs m pend watch)
      (forceN (Nat.add base o.slot) fun nid => ((quB' o.op).run ps fr H nid).bind fun x =>
        (allF (okF ps o.op fr nid x.1 x.2) (Hs.take (m - o.lo))).bind fun _ =>
          (putK o.dst).run fr x.1 fun fr' => k.run cs ps base fr' H Hs m (addPendS o.hi nid x.2 pend)
            (Bool.rec (motive := fun _ => List SRec) watch ({ op := o.op, fr := fr, v := x.1, b := x.2, hi := o.hi, nid := nid } :: watch) (Nat.ble (Nat.succ m) o.hi)))
      ((wB o.guard).run fr)⟩
    ⟨fun cs ps base fr H Hs m pend watch =>
      (Bool.rec (motive := fun _ => SM (SV × SHeap)) (.ret (.tup [], commitS m pend H)) ((loB o.op).run cs fr (commitS m pend H)) ((wB o.guard).run fr)).bind fun x =>
        (allF (fun (c : SRec) => Bool.rec (motive := fun _ => SM Unit) (okF ps c.op c.fr c.nid c.v c.b x.2) (.ret ()) (Nat.ble c.hi m)) watch).bind fun _ =>
          (putK o.dst).run fr x.1 fun fr => k.run cs ps base fr x.2 (H :: Hs) (Nat.succ m) pend watch⟩ o.op.loud
def drB (l : List EOper) : Bx Dr := List.rec (motive := fun _ => Bx Dr) ⟨fun _ _ _ fr H _ m pend _ => .ret (fr, commitS m pend H)⟩ (fun o _ ih => drStep o ih) l
theorem drB_eq : ∀ (l : List EOper) (cs : SCall) (ps : SPure) (base : Nat) (fr : SFr) (H : SHeap) (Hs : List SHeap) (m : Nat) (pend : List (Nat × Nat × SObj)) (watch : List SRec),
    (drB l).run cs ps base fr H Hs m pend watch = runDrawS cs ps base l fr H Hs m pend watch
  | [], cs, ps, base, fr, H, Hs, m, pend, watch => rfl
  | o :: l, cs, ps, base, fr, H, Hs, m, pend, watch => by
    have ih := fun fr H Hs m pend watch => drB_eq l cs ps base fr H Hs m pend watch
    have e : drB (o :: l) = drStep o (drB l) := rfl
    rw [e]
    unfold runDrawS drStep
    cases o.op.loud with
    | true =>
      rw [if_pos rfl]
      dsimp only
      rw [boolRec_if, wB_eq, loB_eq]
      simp only [ih, putK_eq, allF_eq, okF_eq, boolRec_if, ble_dec, decide_eq_true_eq, Nat.succ_eq_add_one]
    | false =>
      rw [if_neg (by simp)]
      dsimp only
      rw [boolRec_if, wB_eq]
      simp only [ih, putK_eq, allF_eq, boolRec_if, ble_dec, decide_eq_true_eq, forceN_eq, quB'_eq, Nat.succ_eq_add_one, Nat.add_eq, show okF ps o.op fr = okAtS ps o.op fr from by funext nid v b H; exact okF_eq ..]
      rfl

/-! ### Code -/
def exK {β : Type} (e : Ex) (n : β) (d : β) (x : Nat → β) : β := Ex.rec (motive := fun _ => β) n d (fun j => x j) e
def coB (c : EC) : Bx (SEnv → SCall → SPure → SRun → SFr → SHeap → SM (Ex × SFr × SHeap)) :=
  match c with
  | .skip => ⟨fun _ _ _ _ fr H => .ret (.nrm, fr, H)⟩
  | .ops l => ⟨fun _ cs ps _ fr H => ((opsB l).run cs ps fr H).bind fun r => .ret (.nrm, r.1, r.2)⟩
  | .draw k l => ⟨fun _ cs ps _ fr H => forceN H.next fun b => ((drB l).run cs ps b fr (H.skip k) [] 0 [] []).bind fun r => .ret (.nrm, r.1, r.2)⟩
  | .seq a b => ⟨fun _ _ _ rec fr H => (rec a fr H).bind fun r => exK r.1 (rec b r.2.1 r.2.2) (.ret r) (fun _ => .ret r)⟩
  | .cond c a b => ⟨fun _ _ _ rec fr H => ((evB c).run fr).boolK (fun t => Bool.rec (motive := fun _ => SM (Ex × SFr × SHeap)) (rec b fr H) (rec a fr H) t) .fail⟩
  | .block id b => ⟨fun _ _ _ rec fr H => (rec b fr H).bind fun r => exK r.1 (.ret r) (.ret r) (fun j => Bool.rec (motive := fun _ => SM (Ex × SFr × SHeap)) (.ret r) (.ret (.nrm, r.2.1, r.2.2)) (Nat.beq j id))⟩
  | .loop b => ⟨fun _ _ _ rec fr H => (rec b fr H).bind fun r => exK r.1 (rec (.loop b) r.2.1 r.2.2) (.ret r) (fun _ => .ret r)⟩
  | .exit id => ⟨fun _ _ _ _ fr H => .ret (.exit id, fr, H)⟩
  | .ret => ⟨fun _ _ _ _ fr H => .ret (.ret, fr, H)⟩
def mkFrF {β : Type} (l : List SV) : Nat → SFr → (SFr → β) → β := List.rec (motive := fun _ => Nat → SFr → (SFr → β) → β) (fun _ fr k => k fr) (fun v _ ih i fr k => forceV v fun v => fr.setK v (pa i) fun fr => ih (Nat.succ i) fr k) l
theorem mkFrF_eq {β : Type} : ∀ (l : List SV) (i : Nat) (fr : SFr) (k : SFr → β), mkFrF l i fr k = k (mkFrS l i fr)
  | [], i, fr, k => rfl
  | v :: l, i, fr, k => by
    show forceV v (fun v => fr.setK v (pa i) fun fr => mkFrF l (i + 1) fr k) = _
    rw [forceV_eq, T.setK_eq, T.setPa, mkFrF_eq l]; rfl
def groundF (v : SV) : Bool := SV.rec (motive_1 := fun _ => Bool) (motive_2 := fun _ => Bool) (fun _ => true) (fun _ _ => true) (fun _ => true) true (fun _ _ => false) true (fun _ _ _ _ _ => false)
  (fun _ _ _ a b => andF a b) true (fun _ _ a => a) true true (fun _ => false) (fun _ a => a) (fun _ a => a) true (fun _ _ a b => andF a b) v
def groundsF (l : List SV) : Bool := List.rec (motive := fun _ => Bool) true (fun v _ ih => andF (groundF v) ih) l
def groundsR (l : List SV) : Bool := SV.rec_1 (motive_1 := fun _ => Bool) (motive_2 := fun _ => Bool) (fun _ => true) (fun _ _ => true) (fun _ => true) true (fun _ _ => false) true (fun _ _ _ _ _ => false)
  (fun _ _ _ a b => andF a b) true (fun _ _ a => a) true true (fun _ => false) (fun _ a => a) (fun _ a => a) true (fun _ _ a b => andF a b) l
mutual
theorem groundF_eq : ∀ v : SV, groundF v = v.ground
  | .bool b => rfl
  | .int k n => rfl
  | .str s => rfl
  | .nilp => rfl
  | .ptr i o => rfl
  | .nils => rfl
  | .sl i o n es f => rfl
  | .fn f a b => by
    show andF (groundsR a) (groundsR b) = _
    rw [andF_eq, groundsR_eq a, groundsR_eq b]; simp only [SV.ground]
  | .nilFn => rfl
  | .iface t v => by show groundF v = _; rw [groundF_eq v]; simp only [SV.ground]
  | .nilI => rfl
  | .nilm => rfl
  | .map i => rfl
  | .agg cs => by show groundsR cs = _; rw [groundsR_eq cs]; simp only [SV.ground]
  | .tup vs => by show groundsR vs = _; rw [groundsR_eq vs]; simp only [SV.ground]
theorem groundsR_eq : ∀ l : List SV, groundsR l = SV.grounds l
  | [] => rfl
  | v :: r => by
    show andF (groundF v) (groundsR r) = _
    rw [andF_eq, groundF_eq v, groundsR_eq r]; simp only [SV.grounds]
end
theorem groundsF_eq : ∀ l : List SV, groundsF l = SV.grounds l
  | [] => rfl
  | v :: r => by
    show andF (groundF v) (groundsF r) = _
    rw [andF_eq, groundF_eq v, groundsF_eq r]; simp only [SV.grounds]

/-- One result, or more. -/
def resB (l : List ERes) : Bx (SFr → SHeap → SM SV) :=
  match l with
  | [.t n] => ⟨fun fr _ => Option.rec (motive := fun _ => SM SV) (.ret (.tup [])) (fun v => .ret v) (fr.getP (pa n))⟩
  | [.c1 a] => ⟨fun fr H => Option.rec (motive := fun _ => SM SV) .fail (fun v => ld1F v H (fun v => .ret v) .fail) (fr.getP (pa a))⟩
  | l => ⟨fun fr H => match resListS fr H l with | some vs => .ret (tupS vs) | none => .fail⟩
theorem resB_eq (l : List ERes) (fr : SFr) (H : SHeap) : (resB l).run fr H = match resListS fr H l with | some vs => .ret (tupS vs) | none => .fail := by
  unfold resB
  split
  · rename_i n
    show Option.rec (motive := fun _ => SM SV) (.ret (.tup [])) (fun v => .ret v) (fr.getP (pa n)) = _
    rw [T.getPa]
    simp only [resListS, resOfS]
    cases fr.getF n <;> rfl
  · rename_i a
    show Option.rec (motive := fun _ => SM SV) .fail (fun v => ld1F v H (fun v => .ret v) .fail) (fr.getP (pa a)) = _
    rw [T.getPa]
    simp only [resListS, resOfS]
    cases fr.getF a with
    | none => rfl
    | some v =>
      show ld1F v H (fun v => SM.ret v) .fail = _
      rw [ld1F_eq]
      simp only [Option.getD_some]
      cases v with
      | ptr i o =>
        simp only
        cases H.get i with
        | cells ro cs => simp only; cases cs[o]? <;> rfl
        | _ => rfl
      | _ => rfl
  · rfl
def callF (E : SEnv) (rec : SRun) : SCall := fun f args H =>
  Option.rec (motive := fun _ => SM (SV × SHeap)) .fail (fun ef => mkFrF args 0 .nil fun fr => (rec ef.body fr H).bind fun r =>
    exK r.1 (((resB ef.res).run r.2.1 r.2.2).bind fun v => .ret (v, r.2.2)) (((resB ef.res).run r.2.1 r.2.2).bind fun v => .ret (v, r.2.2)) (fun _ => .fail)) (E.fn f)
def pureF' (E : SEnv) (rec : SRun) : SPure := fun f args =>
  Option.rec (motive := fun _ => SM SV) (Bool.rec (motive := fun _ => SM SV) .fail ((callF E rec f args E.glob).bind fun r => Bool.rec (motive := fun _ => SM SV) .fail (.ret r.1) (groundF r.1)) (groundsF args))
    (fun h => h args) (E.known f)
theorem callF_eq (E : SEnv) (rec : SRun) : callF E rec = callAS E rec := by
  funext f args H
  unfold callF callAS
  cases E.fn f with
  | none => rfl
  | some ef =>
    show mkFrF args 0 .nil _ = _
    rw [mkFrF_eq]
    simp only
    congr 1
    funext r
    obtain ⟨e, fr', H'⟩ := r
    have h : (((resB ef.res).run fr' H').bind fun v => SM.ret (v, H')) = match resListS fr' H' ef.res with
        | some vs => .ret (tupS vs, H')
        | none => .fail := by
      rw [resB_eq]
      cases resListS fr' H' ef.res with
      | none => exact SM.bind_fail _
      | some vs => exact SM.bind_ret _ _
    cases e with
    | nrm => exact h
    | ret => exact h
    | exit j => rfl
theorem pureF'_eq (E : SEnv) (rec : SRun) : pureF' E rec = pureAS E rec := by
  funext f args
  unfold pureF' pureAS
  cases E.known f with
  | some h => rfl
  | none =>
    show Bool.rec (motive := fun _ => SM SV) .fail _ (groundsF args) = _
    rw [boolRec_if, groundsF_eq, callF_eq]
    simp only [groundF_eq, boolRec_if]
def execF (E : SEnv) (n : Nat) : SRun := Nat.rec (motive := fun _ => SRun) (fun _ _ _ => .fail) (fun _ r c fr H => (coB c).run E (callF E r) (pureF' E r) r fr H) n
theorem coB_eq (E : SEnv) (rec : SRun) (c : EC) (fr : SFr) (H : SHeap) : (coB c).run E (callF E rec) (pureF' E rec) rec fr H = stepS E rec c fr H := by
  cases c with
  | skip => rfl
  | ops l => simp only [coB, stepS, opsB_eq, callF_eq, pureF'_eq]
  | draw k l => simp only [coB, stepS, drB_eq, callF_eq, pureF'_eq, forceN_eq]
  | seq a b =>
    simp only [coB, stepS]
    congr 1
    funext r
    obtain ⟨e, fr', H'⟩ := r
    cases e <;> rfl
  | cond c a b =>
    simp only [coB, stepS, evB_eq]
    cases evS fr c with
    | bool t => cases t <;> rfl
    | _ => rfl
  | block id b =>
    simp only [coB, stepS]
    congr 1
    funext r
    obtain ⟨e, fr', H'⟩ := r
    cases e with
    | exit j =>
      show Bool.rec (motive := fun _ => SM (Ex × SFr × SHeap)) _ _ (Nat.beq j id) = _
      rw [boolRec_if, beq_dec]
      simp only [decide_eq_true_eq]
    | _ => rfl
  | loop b =>
    simp only [coB, stepS]
    congr 1
    funext r
    obtain ⟨e, fr', H'⟩ := r
    cases e <;> rfl
  | exit id => rfl
  | ret => rfl
theorem execF_eq (E : SEnv) : ∀ n, execF E n = execS E n
  | 0 => rfl
  | n + 1 => by
    funext c fr H
    show (coB c).run E (callF E (execF E n)) (pureF' E (execF E n)) (execF E n) fr H = stepS E (execS E n) c fr H
    rw [execF_eq E n, coB_eq]
def callQ (E : SEnv) (n : Nat) : SCall := callF E (execF E n)
theorem callQ_eq (E : SEnv) (n : Nat) : callQ E n = callS E n := by unfold callQ callS; rw [callF_eq, execF_eq]
def allT (l : List (Facts' × (SV × SHeap))) : Bool := List.rec (motive := fun _ => Bool) true (fun x _ ih => andF (x.2.1.boolK (fun b => b) false) ih) l
theorem allT_eq : ∀ l : List (Facts' × (SV × SHeap)), allT l = l.all fun x => isTrueS x.2.1
  | [] => rfl
  | x :: l => by
    show andF (x.2.1.boolK (fun b => b) false) (allT l) = _
    rw [andF_eq, allT_eq l, List.all_cons]
    congr 1
    cases x.2.1 with
    | bool b => cases b <;> rfl
    | _ => rfl
def lawQ (S : SEnv) (n : Nat) (f : FuncId) (args : List SV) (H : SHeap) (Th : Thy) (F : Facts') : Bool :=
  Option.rec (motive := fun _ => Bool) false (fun l => allT l) (callQ S n f args H Th F)
theorem lawQ_eq (S : SEnv) (n : Nat) (f : FuncId) (args : List SV) (H : SHeap) (Th : Thy) (F : Facts') : lawQ S n f args H Th F = lawS S n f args H Th F := by
  unfold lawQ lawS
  rw [callQ_eq]
  cases callS S n f args H Th F with
  | none => rfl
  | some l => exact allT_eq l
theorem lawQ_ok {ρ : Val} {Th : Thy} {S : SEnv} {E : Env} (ok : ρ.Ok Th) (se : S.Ok ρ Th E) {n : Nat} {f : FuncId} {args : List SV} {H : SHeap} {F : Facts'} (hs : Sat ρ F) (h : lawQ S n f args H Th F = true) :
    ∃ H', call E n f (denVs ρ args) (denH ρ H) = some (.bool true, H') := lawS_ok ok se hs (by rw [← lawQ_eq]; exact h)
end
end Go.Ev
