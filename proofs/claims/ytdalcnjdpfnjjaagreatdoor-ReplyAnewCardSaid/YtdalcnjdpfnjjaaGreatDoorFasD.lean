/- The quick run: operations, regions, code, calls; it is the run with symbols. No program in sight. -/
import Derived.Test.YtdalcnjdpfnjjaaGreatDoorFasC
set_option linter.unusedSimpArgs false
set_option linter.unusedVariables false
namespace Go.Ev
open Go
noncomputable section

abbrev Cont := SCall → SPure → SFr → SHeap → SM (SFr × SHeap)

/-- A quiet operation that is no call. -/
def quB (op : EOp) : Bx (SFr → SHeap → Nat → SM (SV × Option SObj)) :=
  match op with
  | .mv x => ⟨fun fr H nid => .ret ((evB x).run fr, none)⟩
  | .pick c a b => ⟨fun fr H nid => ((evB c).run fr).boolK (fun t => .ret (Bool.rec (motive := fun _ => SV) ((evB b).run fr) ((evB a).run fr) t, none)) .fail⟩
  | .ld1 a => ⟨fun fr H nid => ld1F ((evB a).run fr) H (fun v => .ret (v, none)) .fail⟩
  | .ldn n a => ⟨fun fr H nid => ldnF n ((evB a).run fr) H (fun v => .ret (v, none)) .fail⟩
  | .fa off x => ⟨fun fr H nid => ((evB x).run fr).ptrK (fun i o => forceN (Nat.add o off) fun o => .ret (.ptr i o, none)) .fail⟩
  | .fld1 off x => ⟨fun fr H nid => ((evB x).run fr).aggK (fun cs => nthF off cs (fun v => .ret (v, none)) .fail) .fail⟩
  | .ext x i => ⟨fun fr H nid => ((evB x).run fr).tupK (fun cs => nthF i cs (fun v => .ret (v, none)) .fail) .fail⟩
  | .ibin op x y => ⟨fun fr H nid => ((ibinB op).run ((evB x).run fr) ((evB y).run fr)).bind fun v => .ret (v, none)⟩
  | .cvI k x => ⟨fun fr H nid => ((cvB k).run ((evB x).run fr)).bind fun v => .ret (v, none)⟩
  | .neq0 neg kd x y => ⟨fun fr H nid => Option.rec (motive := fun _ => SM (SV × Option SObj)) .fail (fun v => .ret (v, none)) ((neqB neg kd).run ((evB x).run fr) ((evB y).run fr))⟩
  | .ia es x i => ⟨fun fr H nid => (iaF es ((evB x).run fr) ((evB i).run fr)).bind fun v => .ret (v, none)⟩
  | .aeq neg ks x y => ⟨fun fr H nid => ((evB x).run fr).aggK (fun a => ((evB y).run fr).aggK (fun b =>
      Bool.rec (motive := fun _ => SM (SV × Option SObj)) .fail (((cellsB ks).run a b).bind fun e => .ret (.bool (Bool.rec (motive := fun _ => Bool) e (Bool.rec (motive := fun _ => Bool) true false e) neg), none))
        (andF (Nat.beq (lenF a) (lenF ks)) (Nat.beq (lenF b) (lenF ks)))) .fail) .fail⟩
  | .new z => ⟨fun fr H nid => .ret (.ptr nid 0, some (.cells false (ofVs z)))⟩
  | .box x => ⟨fun fr H nid => .ret (.ptr nid 0, some (.cells false (cellsF ((evB x).run fr))))⟩
  | .un .not x => ⟨fun fr H nid => ((evB x).run fr).boolK (fun b => .ret (.bool (Bool.rec (motive := fun _ => Bool) true false b), none)) .fail⟩
  | op => ⟨fun fr H nid => qopS op fr H nid⟩

theorem ofOpt_ite {α : Type} (c : Prop) [Decidable c] (x : α) : SM.ofOpt (if c then some x else none) = if c then .ret x else .fail := by
  split <;> rfl
theorem ofOpt_map {α β : Type} (o : Option α) (f : α → β) : SM.ofOpt (o.map f) = match o with | some a => .ret (f a) | none => .fail := by cases o <;> rfl
theorem quB_eq (op : EOp) (fr : SFr) (H : SHeap) (nid : Nat) : (quB op).run fr H nid = qopS op fr H nid := by
  cases op with
  | mv x => simp only [quB, qopS, pl_mv, evB_eq, SM.ofOpt_some]
  | pick c a b =>
    simp only [quB, qopS, pl_pick, evB_eq]
    cases evS fr c with
    | bool t => cases t <;> rfl
    | _ => rfl
  | ld1 a =>
    simp only [quB, qopS, pl_ld1, evB_eq, ld1F_eq]
    cases evS fr a with
    | ptr i o =>
      simp only
      cases H.get i with
      | cells ro cs => simp only; cases cs[o]? <;> rfl
      | _ => rfl
    | _ => rfl
  | ldn n a =>
    simp only [quB, qopS, pl_ldn, evB_eq]
    cases evS fr a with
    | ptr i o =>
      show (getH H i).cellsK _ _ = _
      rw [getH_eq]
      simp only
      cases H.get i with
      | cells ro cs =>
        simp only
        rw [ofOpt_ite]
        show Bool.rec (motive := fun _ => SM (SV × Option SObj)) _ _ (Nat.ble (o + n) (lenF cs)) = _
        rw [boolRec_if, ble_dec, lenF_eq, dropK_eq, takeK_eq]
        simp only [decide_eq_true_eq]
      | _ => rfl
    | _ => rfl
  | fa off x =>
    simp only [quB, qopS, pl_fa, evB_eq, forceN_eq]
    cases evS fr x <;> rfl
  | fld1 off x =>
    simp only [quB, qopS, pl_fld1, evB_eq, nthF_eq]
    cases evS fr x with
    | agg cs =>
      simp only
      show (match cs[off]? with | some v => SM.ret (v, none) | none => .fail) = _
      cases cs[off]? <;> rfl
    | _ => rfl
  | ext x i =>
    simp only [quB, qopS, pl_ext, evB_eq, nthF_eq]
    cases evS fr x with
    | tup cs =>
      simp only
      show (match cs[i]? with | some v => SM.ret (v, none) | none => .fail) = _
      cases cs[i]? <;> rfl
    | _ => rfl
  | ibin o x y => simp only [quB, qopS, qs_ibin, evB_eq, ibinB_eq]
  | cvI k x =>
    simp only [quB, qopS, qs_cvI, evB_eq, cvB_eq]
    cases evS fr x with
    | int l n => rfl
    | _ => exact SM.bind_fail _
  | neq0 neg kd x y =>
    simp only [quB, qopS, evB_eq, ← neqB_eq]
    cases (neqB neg kd).run (evS fr x) (evS fr y) <;> rfl
  | ia es x i => simp only [quB, qopS, evB_eq]; exact iaF_eq fr H nid es x i
  | aeq neg ks x y =>
    simp only [quB, qopS, qs_aeq, evB_eq]
    cases evS fr x with
    | agg a =>
      cases evS fr y with
      | agg b =>
        show Bool.rec (motive := fun _ => SM (SV × Option SObj)) .fail _ (andF _ _) = _
        rw [boolRec_if]
        simp only [andF_eq, beq_dec, lenF_eq, Bool.and_eq_true, decide_eq_true_eq, cellsB_eq]
        congr 1
        congr 1
        funext e
        cases neg <;> cases e <;> rfl
      | _ => rfl
    | _ => rfl
  | new z => rfl
  | box x => simp only [quB, qopS, pl_box, evB_eq, cellsF_eq, SM.ofOpt_some]
  | un o x =>
    cases o with
    | not =>
      simp only [quB, qopS, qs_un, evB_eq]
      cases evS fr x with
      | bool b => cases b <;> rfl
      | _ => rfl
    | _ => rfl
  | _ => rfl

/-- An operation and what comes behind. -/
def coreB (op : EOp) (d : Option Nat) (k : Bx Cont) : Bx Cont :=
  match op with
  | .mv x => ⟨fun cs ps fr H => (putK d).run fr ((evB x).run fr) fun fr => k.run cs ps fr H⟩
  | .ld1 a => ⟨fun cs ps fr H => ld1F ((evB a).run fr) H (fun v => (putK d).run fr v fun fr => k.run cs ps fr H) .fail⟩
  | .pcall f args => ⟨fun cs ps fr H => (ps f ((evsB args).run fr)).bind fun v => (putK d).run fr v fun fr => k.run cs ps fr H⟩
  | .st n a v => ⟨fun cs ps fr H => storeK H ((evB a).run fr) n ((evB v).run fr) (fun H' => (putK d).run fr (.tup []) fun fr => k.run cs ps fr H') .fail⟩
  | .call f args => ⟨fun cs ps fr H => (cs f ((evsB args).run fr) H).bind fun x => (putK d).run fr x.1 fun fr => k.run cs ps fr x.2⟩
  | op => Bool.rec (motive := fun _ => Bx Cont)
      ⟨fun cs ps fr H => forceN H.next fun nid => ((quB op).run fr H nid).bind fun x => (putK d).run fr x.1 fun fr => Option.rec (motive := fun _ => SM (SFr × SHeap)) (k.run cs ps fr H) (fun b => allocK H nid b fun H => k.run cs ps fr H) x.2⟩
      ⟨fun cs ps fr H => (lopS cs op fr H).bind fun x => (putK d).run fr x.1 fun fr => k.run cs ps fr x.2⟩ op.loud
theorem coreB_eq (op : EOp) (d : Option Nat) (k : Bx Cont) (cs : SCall) (ps : SPure) (fr : SFr) (H : SHeap) : (coreB op d k).run cs ps fr H =
    if op.loud then (lopS cs op fr H).bind fun x => k.run cs ps (putS fr d x.1) x.2
    else (qopS' ps op fr H H.next).bind fun x => match x.2 with
        | none => k.run cs ps (putS fr d x.1) H
        | some b => k.run cs ps (putS fr d x.1) (H.alloc b) := by
  have gen : ∀ op : EOp, (∀ fr H nid, qopS' ps op fr H nid = qopS op fr H nid) →
      (Bool.rec (motive := fun _ => Bx Cont)
      ⟨fun cs ps fr H => forceN H.next fun nid => ((quB op).run fr H nid).bind fun x => (putK d).run fr x.1 fun fr => Option.rec (motive := fun _ => SM (SFr × SHeap)) (k.run cs ps fr H) (fun b => allocK H nid b fun H => k.run cs ps fr H) x.2⟩
      ⟨fun cs ps fr H => (lopS cs op fr H).bind fun x => (putK d).run fr x.1 fun fr => k.run cs ps fr x.2⟩ op.loud : Bx Cont).run cs ps fr H =
    if op.loud then (lopS cs op fr H).bind fun x => k.run cs ps (putS fr d x.1) x.2
    else (qopS' ps op fr H H.next).bind fun x => match x.2 with
        | none => k.run cs ps (putS fr d x.1) H
        | some b => k.run cs ps (putS fr d x.1) (H.alloc b) := by
    intro op hq
    cases op.loud with
    | true => rw [if_pos rfl]; simp only [putK_eq]
    | false =>
      rw [if_neg (by simp)]
      simp only [forceN_eq, quB_eq, putK_eq, hq, allocK_eq]
      congr 1
      funext x
      cases x.2 <;> rfl
  cases op with
  | mv x =>
    rw [if_neg (by simp [EOp.loud])]
    simp only [coreB, qopS', qopS, pl_mv, SM.ofOpt_some, SM.bind_ret, evB_eq, putK_eq]
  | ld1 a =>
    rw [if_neg (by simp [EOp.loud])]
    simp only [coreB, qopS', qopS, pl_ld1, evB_eq, putK_eq, ld1F_eq]
    cases evS fr a with
    | ptr i o =>
      simp only
      cases H.get i with
      | cells ro cs => 
        simp only
        cases cs[o]? with
        | none => simp only [SM.ofOpt_none, SM.bind_fail]
        | some v => simp only [SM.ofOpt_some, SM.bind_ret]
      | _ => simp only [SM.ofOpt_none, SM.bind_fail]
    | _ => simp only [SM.ofOpt_none, SM.bind_fail]
  | pcall f args =>
    rw [if_neg (by simp [EOp.loud])]
    simp only [coreB, qopS', evsB_eq, putK_eq]
    funext Th F
    rw [SM.bind_eq, SM.bind_eq, SM.bind_eq]
    cases ps f (args.map (evS fr)) Th F with
    | none => rfl
    | some l =>
      cases l with
      | nil => rfl
      | cons x r =>
        cases r with
        | nil => rfl
        | cons y r =>
          have hL : ∀ l : List (Facts' × SV), SM.bindL (fun v => SM.ret (v, (none : Option SObj))) Th l = some (l.map fun x => (x.1, (x.2, none))) := by
            intro l
            induction l with
            | nil => rfl
            | cons x r ih =>
              cases r with
              | nil => rfl
              | cons y r => simp only [SM.bindL, SM.ret] at ih ⊢; rw [ih]; rfl
          have hG : ∀ (g : SV × Option SObj → SM (SFr × SHeap)) (l : List (Facts' × SV)), SM.bindL (fun v => g (v, none)) Th l = SM.bindL g Th (l.map fun x => (x.1, (x.2, none))) := by
            intro g l
            induction l with
            | nil => rfl
            | cons x r ih =>
              cases r with
              | nil => rfl
              | cons y r => simp only [SM.bindL, List.map_cons] at ih ⊢; rw [ih]
          simp only [SM.bindC, hL, List.map_cons]
          have := hG (fun x => match x.2 with
            | none => k.run cs ps (putS fr d x.1) H
            | some b => k.run cs ps (putS fr d x.1) (H.alloc b)) (x :: y :: r)
          simpa using this
  | st n a v =>
    rw [if_pos (by simp [EOp.loud])]
    simp only [coreB, lopS, evB_eq, putK_eq, storeK_eq, map_bind_ofOpt]
    cases storeS H (evS fr a) n (evS fr v).cells <;> rfl
  | call f args => rw [if_pos (by simp [EOp.loud])]; simp only [coreB, lopS, evsB_eq, putK_eq]
  | pick a0 a1 a2 => exact gen (.pick a0 a1 a2) (fun _ _ _ => rfl)
  | new a0 => exact gen (.new a0) (fun _ _ _ => rfl)
  | box a0 => exact gen (.box a0) (fun _ _ _ => rfl)
  | build a0 a1 => exact gen (.build a0 a1) (fun _ _ _ => rfl)
  | bslice a0 a1 a2 a3 => exact gen (.bslice a0 a1 a2 a3) (fun _ _ _ => rfl)
  | ldn a0 a1 => exact gen (.ldn a0 a1) (fun _ _ _ => rfl)
  | nilchk a0 => exact gen (.nilchk a0) (fun _ _ _ => rfl)
  | ibin a0 a1 a2 => exact gen (.ibin a0 a1 a2) (fun _ _ _ => rfl)
  | sbin a0 a1 a2 => exact gen (.sbin a0 a1 a2) (fun _ _ _ => rfl)
  | beq a0 a1 a2 => exact gen (.beq a0 a1 a2) (fun _ _ _ => rfl)
  | neq0 a0 a1 a2 a3 => exact gen (.neq0 a0 a1 a2 a3) (fun _ _ _ => rfl)
  | aeq a0 a1 a2 a3 => exact gen (.aeq a0 a1 a2 a3) (fun _ _ _ => rfl)
  | un a0 a1 => exact gen (.un a0 a1) (fun _ _ _ => rfl)
  | cvI a0 a1 => exact gen (.cvI a0 a1) (fun _ _ _ => rfl)
  | cvSS a0 => exact gen (.cvSS a0) (fun _ _ _ => rfl)
  | cvSB a0 => exact gen (.cvSB a0) (fun _ _ _ => rfl)
  | cvBS a0 => exact gen (.cvBS a0) (fun _ _ _ => rfl)
  | cvRS a0 => exact gen (.cvRS a0) (fun _ _ _ => rfl)
  | mkI a0 a1 => exact gen (.mkI a0 a1) (fun _ _ _ => rfl)
  | mkF a0 a1 a2 => exact gen (.mkF a0 a1 a2) (fun _ _ _ => rfl)
  | mkSlice a0 a1 a2 a3 a4 => exact gen (.mkSlice a0 a1 a2 a3 a4) (fun _ _ _ => rfl)
  | slS a0 a1 a2 => exact gen (.slS a0 a1 a2) (fun _ _ _ => rfl)
  | slL a0 a1 a2 a3 a4 => exact gen (.slL a0 a1 a2 a3 a4) (fun _ _ _ => rfl)
  | slA a0 a1 a2 a3 a4 a5 => exact gen (.slA a0 a1 a2 a3 a4 a5) (fun _ _ _ => rfl)
  | fa a0 a1 => exact gen (.fa a0 a1) (fun _ _ _ => rfl)
  | fld1 a0 a1 => exact gen (.fld1 a0 a1) (fun _ _ _ => rfl)
  | fldn a0 a1 a2 => exact gen (.fldn a0 a1 a2) (fun _ _ _ => rfl)
  | ia a0 a1 a2 => exact gen (.ia a0 a1 a2) (fun _ _ _ => rfl)
  | iaA a0 a1 a2 a3 => exact gen (.iaA a0 a1 a2 a3) (fun _ _ _ => rfl)
  | ixS a0 a1 => exact gen (.ixS a0 a1) (fun _ _ _ => rfl)
  | ixA1 a0 a1 a2 a3 => exact gen (.ixA1 a0 a1 a2 a3) (fun _ _ _ => rfl)
  | ixAn a0 a1 a2 a3 => exact gen (.ixAn a0 a1 a2 a3) (fun _ _ _ => rfl)
  | rngS a0 => exact gen (.rngS a0) (fun _ _ _ => rfl)
  | next a0 => exact gen (.next a0) (fun _ _ _ => rfl)
  | tas a0 a1 a2 a3 => exact gen (.tas a0 a1 a2 a3) (fun _ _ _ => rfl)
  | ext a0 a1 => exact gen (.ext a0 a1) (fun _ _ _ => rfl)
  | callv a0 a1 => exact gen (.callv a0 a1) (fun _ _ _ => rfl)
  | app a0 a1 a2 a3 => exact gen (.app a0 a1 a2 a3) (fun _ _ _ => rfl)
  | appZ a0 a1 a2 a3 a4 => exact gen (.appZ a0 a1 a2 a3 a4) (fun _ _ _ => rfl)
  | cvLL a0 => exact gen (.cvLL a0) (fun _ _ _ => rfl)
  | len a0 => exact gen (.len a0) (fun _ _ _ => rfl)
  | lenS a0 => exact gen (.lenS a0) (fun _ _ _ => rfl)
  | cap a0 => exact gen (.cap a0) (fun _ _ _ => rfl)
  | copy a0 a1 a2 => exact gen (.copy a0 a1 a2) (fun _ _ _ => rfl)
  | mx a0 => exact gen (.mx a0) (fun _ _ _ => rfl)
  | mn a0 => exact gen (.mn a0) (fun _ _ _ => rfl)
  | clr a0 a1 a2 => exact gen (.clr a0 a1 a2) (fun _ _ _ => rfl)
  | bad => exact gen .bad (fun _ _ _ => rfl)

def opB (o : EOper) (k : Bx Cont) : Bx Cont :=
  Option.rec (motive := fun _ => Bx Cont) (coreB o.op o.dst k)
    (fun g => ⟨fun cs ps fr H => Bool.rec (motive := fun _ => SM (SFr × SHeap)) ((putK o.dst).run fr (.tup []) fun fr => k.run cs ps fr H) ((coreB o.op o.dst k).run cs ps fr H) ((wantB g.1 g.2).run fr)⟩) o.guard
def opsB (l : List EOper) : Bx Cont := List.rec (motive := fun _ => Bx Cont) ⟨fun _ _ fr H => .ret (fr, H)⟩ (fun o _ ih => opB o ih) l
theorem opsB_eq : ∀ (l : List EOper) (cs : SCall) (ps : SPure) (fr : SFr) (H : SHeap), (opsB l).run cs ps fr H = runOpsS cs ps l fr H
  | [], cs, ps, fr, H => rfl
  | o :: l, cs, ps, fr, H => by
    rw [runOpsS_cons]
    have e : opsB (o :: l) = opB o (opsB l) := rfl
    have ih := fun fr H => opsB_eq l cs ps fr H
    rw [e]
    unfold opB
    cases hg : o.guard with
    | none =>
      have hw : wantedS o fr = true := by unfold wantedS; rw [hg]
      rw [if_pos hw]
      show (coreB o.op o.dst (opsB l)).run cs ps fr H = _
      rw [coreB_eq]
      simp only [ih]
      congr 1
      all_goals (try congr 1)
      all_goals (try (funext x; cases x.2 <;> rfl))
    | some g =>
      obtain ⟨t, b⟩ := g
      show Bool.rec (motive := fun _ => SM (SFr × SHeap)) _ _ ((wantB t b).run fr) = _
      rw [boolRec_if, wantB_eq t b fr o hg, coreB_eq]
      simp only [ih, putK_eq]
      congr 1
      all_goals (try congr 1)
      all_goals (try congr 1)
      all_goals (try (funext x; cases x.2 <;> rfl))
end
end Go.Ev
