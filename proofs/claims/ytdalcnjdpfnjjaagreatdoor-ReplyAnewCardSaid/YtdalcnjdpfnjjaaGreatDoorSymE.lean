/- Symbols: loud operations, regions, code, calls; a law by one run. -/
import Derived.Test.YtdalcnjdpfnjjaaGreatDoorSymD
set_option linter.unusedSimpArgs false
set_option linter.unusedVariables false
namespace Go.Ev
open Go

noncomputable def storeS (H : SHeap) (a : SV) (n : Nat) (c : List SV) : Option SHeap :=
  match a with
  | .ptr i o => match H.get i with
    | .cells false cs => if c.length = n ∧ o + n ≤ cs.length ∧ c.all SV.isCell = true then some (H.set i (.cells false (cs.take o ++ c ++ cs.drop (o + n)))) else none
    | _ => none
  | _ => none
noncomputable def appCS (es bytes m : Nat) (s : SV) (xs : List SV) (H : SHeap) : Option (SV × SHeap) :=
  match s with
  | .nils => if m * bytes ≤ 2 ^ 44 ∧ 1 ≤ bytes ∧ bytes ≤ 2 ^ 20 ∧ xs.all SV.isCell = true then some (.sl H.next 0 (.lit (m : Int)) es false, H.alloc (.cells false xs)) else none
  | .sl i o n es' f => match litN n with
    | none => none
    | some n =>
    match H.get i with
    | .cells ro cs =>
      if es' = es ∧ o + n * es ≤ cs.length ∧ (n + m) * bytes ≤ 2 ^ 44 ∧ 1 ≤ bytes ∧ bytes ≤ 2 ^ 20 ∧ xs.all SV.isCell = true then
        if f then some (.sl H.next 0 (.lit ((n + m : Nat) : Int)) es false, H.alloc (.cells false ((cs.drop o).take (n * es) ++ xs)))
        else if ro then none
        else some (.sl H.next 0 (.lit ((n + m : Nat) : Int)) es false, (H.set i .dead).alloc (.cells false ((cs.drop o).take (n * es) ++ xs)))
      else none
    | _ => none
  | _ => none
def isSlS : SV → Bool
  | .nils | .sl .. => true
  | _ => false
noncomputable def appAS (es bytes : Nat) (s x : SV) (H : SHeap) : Option (SV × SHeap) :=
  match srcCellsS H es x with
  | none => none
  | some (xs, m) => if m = 0 then (if isSlS s then some (s, H) else none) else appCS es bytes m s xs H
noncomputable def appZAS (es bytes : Nat) (zero : List V) (s n : SV) (H : SHeap) : Option (SV × SHeap) :=
  match n with
  | .int .i64 (.lit k) =>
    if 0 ≤ k ∧ k ≤ 2 ^ 44 ∧ zero.length = es ∧ 0 < es then
      if k = 0 then (if isSlS s then some (s, H) else none) else appCS es bytes k.toNat s (repS k.toNat (ofVs zero)) H
    else none
  | _ => none
noncomputable def cvLLAS (x : SV) (H : SHeap) : Option (SV × SHeap) :=
  match x with
  | .sl i o n es f => match litN n with
    | none => none
    | some m => match H.get i with
      | .cells false _ => if 0 < m then some (.sl i o n es f, H) else none
      | _ => none
  | _ => none
noncomputable def copyAS (es : Nat) (d s : SV) (H : SHeap) : Option (SV × SHeap) :=
  match srcCellsS H es s, d with
  | some (_, _), .nils => some (.int .i64 (.lit 0), H)
  | some (xs, m), .sl i o n es' _ => match litN n with
    | none => none
    | some n =>
    if es' = es then
      if m = 0 ∨ n = 0 then some (.int .i64 (.lit 0), H)
      else (storeS H (.ptr i o) (min m n * es) (xs.take (min m n * es))).map ((.int .i64 (.lit ((min m n : Nat) : Int))), ·)
    else none
  | _, _ => none
noncomputable def nextAS (it : SV) (H : SHeap) : Option (SV × SHeap) :=
  match it with
  | .ptr r 0 => match H.get r with
    | .sit s pos => match closeS s with
      | none => none
      | some l =>
      if pos < l.length then
        some (.tup [.bool true, .int .i64 (.lit (pos : Int)), .int .i32 (.lit ((Utf8.decode (toBytes l) pos).1 : Int))], H.set r (.sit s (pos + (Utf8.decode (toBytes l) pos).2)))
      else some (.tup [.bool false], H)
    | _ => none
  | _ => none
noncomputable def clrAS (es : Nat) (zero : List V) (x : SV) (H : SHeap) : Option (SV × SHeap) :=
  match x with
  | .nils => some (.tup [], H)
  | .sl i o n es' _ => match litN n with
    | none => none
    | some n => if es' = es then if n = 0 then some (.tup [], H) else (storeS H (.ptr i o) (n * es) (repS n (ofVs zero))).map ((.tup []), ·) else none
  | _ => none

abbrev SCall := FuncId → List SV → SHeap → SM (SV × SHeap)
abbrev SPure := FuncId → List SV → SM SV

noncomputable def lopS (callS : SCall) (op : EOp) (fr : SFr) (H : SHeap) : SM (SV × SHeap) :=
  match op with
  | .st n a v => SM.ofOpt ((storeS H (evS fr a) n (evS fr v).cells).map ((.tup []), ·))
  | .call f args => callS f (args.map (evS fr)) H
  | .callv x args => match evS fr x with
    | .fn f first cap => callS f (first ++ args.map (evS fr) ++ cap) H
    | _ => .fail
  | .app es bytes s x => SM.ofOpt (appAS es bytes (evS fr s) (evS fr x) H)
  | .appZ es bytes zero s n => SM.ofOpt (appZAS es bytes zero (evS fr s) (evS fr n) H)
  | .cvLL x => SM.ofOpt (cvLLAS (evS fr x) H)
  | .next it => SM.ofOpt (nextAS (evS fr it) H)
  | .copy es d s => SM.ofOpt (copyAS es (evS fr d) (evS fr s) H)
  | .clr es zero x => SM.ofOpt (clrAS es zero (evS fr x) H)
  | _ => .fail
noncomputable def qopS' (pureS : SPure) (op : EOp) (fr : SFr) (H : SHeap) (nid : Nat) : SM (SV × Option SObj) :=
  match op with
  | .pcall f args => (pureS f (args.map (evS fr))).bind fun v => .ret (v, none)
  | op => qopS op fr H nid
noncomputable def wantedS (o : EOper) (fr : SFr) : Bool :=
  Option.rec (motive := fun _ => Bool) true (fun g => Prod.rec (motive := fun _ => Bool) (fun t b => match fr.getF t with
    | some (.bool c) => Bool.rec (motive := fun _ => Bool) (Bool.rec (motive := fun _ => Bool) true false b) b c
    | _ => false) g) o.guard
noncomputable def putS (fr : SFr) (d : Option Nat) (v : SV) : SFr :=
  Option.rec (motive := fun _ => SFr) fr (fun d => fr.setF v d) d

noncomputable def runOpsS (callS : SCall) (pureS : SPure) (l : List EOper) : SFr → SHeap → SM (SFr × SHeap) :=
  List.rec (motive := fun _ => SFr → SHeap → SM (SFr × SHeap)) (fun fr H => .ret (fr, H))
    (fun o _ ih fr H => Bool.rec (motive := fun _ => SM (SFr × SHeap)) (ih (putS fr o.dst (.tup [])) H)
      (Bool.rec (motive := fun _ => SM (SFr × SHeap))
        ((qopS' pureS o.op fr H H.next).bind fun x => Prod.rec (motive := fun _ => SM (SFr × SHeap)) (fun v ob => Option.rec (motive := fun _ => SM (SFr × SHeap)) (ih (putS fr o.dst v) H) (fun b => ih (putS fr o.dst v) (H.alloc b)) ob) x)
        ((lopS callS o.op fr H).bind fun x => Prod.rec (motive := fun _ => SM (SFr × SHeap)) (fun v H' => ih (putS fr o.dst v) H') x) o.op.loud) (wantedS o fr)) l
theorem runOpsS_cons (cs : SCall) (ps : SPure) (o : EOper) (r : List EOper) (fr : SFr) (H : SHeap) : runOpsS cs ps (o :: r) fr H =
    if wantedS o fr then
      if o.op.loud then (lopS cs o.op fr H).bind fun x => runOpsS cs ps r (putS fr o.dst x.1) x.2
      else (qopS' ps o.op fr H H.next).bind fun x => match x.2 with
        | none => runOpsS cs ps r (putS fr o.dst x.1) H
        | some b => runOpsS cs ps r (putS fr o.dst x.1) (H.alloc b)
    else runOpsS cs ps r (putS fr o.dst (.tup [])) H := by
  have h : runOpsS cs ps (o :: r) fr H = Bool.rec (motive := fun _ => SM (SFr × SHeap)) (runOpsS cs ps r (putS fr o.dst (.tup [])) H)
      (Bool.rec (motive := fun _ => SM (SFr × SHeap))
        ((qopS' ps o.op fr H H.next).bind fun x => Prod.rec (motive := fun _ => SM (SFr × SHeap)) (fun v ob => Option.rec (motive := fun _ => SM (SFr × SHeap)) (runOpsS cs ps r (putS fr o.dst v) H) (fun b => runOpsS cs ps r (putS fr o.dst v) (H.alloc b)) ob) x)
        ((lopS cs o.op fr H).bind fun x => Prod.rec (motive := fun _ => SM (SFr × SHeap)) (fun v H' => runOpsS cs ps r (putS fr o.dst v) H') x) o.op.loud) (wantedS o fr) := rfl
  rw [h]
  cases wantedS o fr with
  | false => rfl
  | true =>
    cases o.op.loud with
    | true => rfl
    | false =>
      rw [if_pos rfl, if_neg (by simp)]
      show SM.bind _ _ = SM.bind _ _
      congr 1
      funext x
      obtain ⟨v, ob⟩ := x
      cases ob <;> rfl

structure SRec where
  op : EOp
  fr : SFr
  v : SV
  b : Option SObj
  hi : Nat
  nid : Nat
def sameBS : Option SObj → Option SObj → Bool
  | none, none => true
  | some (.cells a c), some (.cells b d) => a == b && SV.beqs c d
  | some (.sit s p), some (.sit t q) => SS.beq s t && Nat.beq p q
  | _, _ => false
noncomputable def okAtS (pureS : SPure) (op : EOp) (fr : SFr) (nid : Nat) (v : SV) (b : Option SObj) (H : SHeap) : SM Unit :=
  (qopS' pureS op fr H nid).bind fun r => SM.test (SV.beq v r.1 && sameBS b r.2)
noncomputable def allS {α : Type} (f : α → SM Unit) : List α → SM Unit
  | [] => .ret ()
  | a :: r => (f a).bind fun _ => allS f r
noncomputable def commitS (m : Nat) : List (Nat × Nat × SObj) → SHeap → SHeap
  | [], H => H
  | (hi, id, b) :: r, H => if hi = m then (commitS m r H).set id b else commitS m r H
def addPendS (hi id : Nat) (b : Option SObj) (pend : List (Nat × Nat × SObj)) : List (Nat × Nat × SObj) :=
  match b with
  | some b => (hi, id, b) :: pend
  | none => pend

noncomputable def runDrawS (callS : SCall) (pureS : SPure) (base : Nat) :
    List EOper → SFr → SHeap → List SHeap → Nat → List (Nat × Nat × SObj) → List SRec → SM (SFr × SHeap)
  | [], fr, H, _, m, pend, _ => .ret (fr, commitS m pend H)
  | o :: r, fr, H, Hs, m, pend, watch =>
    if o.op.loud then
      (if wantedS o fr then lopS callS o.op fr (commitS m pend H) else .ret (.tup [], commitS m pend H)).bind fun x =>
        (allS (fun (c : SRec) => if c.hi ≤ m then .ret () else okAtS pureS c.op c.fr c.nid c.v c.b x.2) watch).bind fun _ =>
          runDrawS callS pureS base r (putS fr o.dst x.1) x.2 (H :: Hs) (m + 1) pend watch
    else if wantedS o fr then
      (qopS' pureS o.op fr H (base + o.slot)).bind fun x =>
        (allS (okAtS pureS o.op fr (base + o.slot) x.1 x.2) (Hs.take (m - o.lo))).bind fun _ =>
          runDrawS callS pureS base r (putS fr o.dst x.1) H Hs m (addPendS o.hi (base + o.slot) x.2 pend)
            (if m < o.hi then { op := o.op, fr := fr, v := x.1, b := x.2, hi := o.hi, nid := base + o.slot } :: watch else watch)
    else runDrawS callS pureS base r (putS fr o.dst (.tup [])) H Hs m pend watch

noncomputable def resOfS (fr : SFr) (H : SHeap) : ERes → Option SV
  | .t n => some ((fr.getF n).getD (.tup []))
  | .c1 a => match (fr.getF a).getD (.tup []) with
    | .ptr i o => match H.get i with
      | .cells _ cs => cs[o]?
      | _ => none
    | _ => none
  | .cn a n => match (fr.getF a).getD (.tup []) with
    | .ptr i o => match H.get i with
      | .cells _ cs => if o + n ≤ cs.length then some (.agg ((cs.drop o).take n)) else none
      | _ => none
    | _ => none
noncomputable def resListS (fr : SFr) (H : SHeap) : List ERes → Option (List SV)
  | [] => some []
  | r :: rs => match resOfS fr H r, resListS fr H rs with
    | some v, some vs => some (v :: vs)
    | _, _ => none
def tupS : List SV → SV
  | [v] => v
  | vs => .tup vs
noncomputable def mkFrS : List SV → Nat → SFr → SFr
  | [], _, fr => fr
  | v :: vs, i, fr => mkFrS vs (i + 1) (fr.setF v i)
mutual
def SV.ground : SV → Bool
  | .ptr _ _ | .sl _ _ _ _ _ | .map _ => false
  | .fn _ a b => SV.grounds a && SV.grounds b
  | .iface _ v => SV.ground v
  | .agg a => SV.grounds a
  | .tup a => SV.grounds a
  | _ => true
def SV.grounds : List SV → Bool
  | [] => true
  | a :: as => SV.ground a && SV.grounds as
end

structure SEnv where
  fn : FuncId → Option EFunc
  known : FuncId → Option (List SV → SM SV)
  glob : SHeap
abbrev SRun := EC → SFr → SHeap → SM (Ex × SFr × SHeap)

noncomputable def callAS (E : SEnv) (rec : SRun) : SCall := fun f args H =>
  match E.fn f with
  | none => .fail
  | some ef => (rec ef.body (mkFrS args 0 .nil) H).bind fun r => match r.1 with
    | .exit _ => .fail
    | _ => match resListS r.2.1 r.2.2 ef.res with
      | some vs => .ret (tupS vs, r.2.2)
      | none => .fail
noncomputable def pureAS (E : SEnv) (rec : SRun) : SPure := fun f args =>
  match E.known f with
  | some h => h args
  | none =>
    if SV.grounds args then (callAS E rec f args E.glob).bind fun r => if r.1.ground then .ret r.1 else .fail
    else .fail
noncomputable def stepS (E : SEnv) (rec : SRun) : SRun := fun c fr H =>
  match c with
  | .skip => .ret (.nrm, fr, H)
  | .ops l => (runOpsS (callAS E rec) (pureAS E rec) l fr H).bind fun r => .ret (.nrm, r.1, r.2)
  | .draw k l => (runDrawS (callAS E rec) (pureAS E rec) H.next l fr (H.skip k) [] 0 [] []).bind fun r => .ret (.nrm, r.1, r.2)
  | .seq a b => (rec a fr H).bind fun r => match r.1 with
    | .nrm => rec b r.2.1 r.2.2
    | _ => .ret r
  | .cond c a b => match evS fr c with
    | .bool true => rec a fr H
    | .bool false => rec b fr H
    | _ => .fail
  | .block id b => (rec b fr H).bind fun r => match r.1 with
    | .exit j => if j = id then .ret (.nrm, r.2.1, r.2.2) else .ret r
    | _ => .ret r
  | .loop b => (rec b fr H).bind fun r => match r.1 with
    | .nrm => rec (.loop b) r.2.1 r.2.2
    | _ => .ret r
  | .exit id => .ret (.exit id, fr, H)
  | .ret => .ret (.ret, fr, H)
noncomputable def execS (E : SEnv) (n : Nat) : SRun := Nat.rec (motive := fun _ => SRun) (fun _ _ _ => .fail) (fun _ r => stepS E r) n
noncomputable def callS (E : SEnv) (n : Nat) : SCall := callAS E (execS E n)

/-! ### They stand for what the evaluator does -/

section
variable {ρ : Val} {Th : Thy}

theorem storeS_ok {H H' : SHeap} {a : SV} {n : Nat} {c : List SV} (h : storeS H a n c = some H') : store (denH ρ H) (denV ρ a) n (denVs ρ c) = some (denH ρ H') := by
  unfold storeS at h
  split at h
  · rename_i i o
    split at h
    · rename_i cs hg
      split at h
      · rename_i hc
        injection h with h; subst h
        simp only [denV, store, denH_get, hg, denO, denVs_len, denVs_isCell, denH_set, denVs_app, denVs_take, denVs_drop]
        rw [if_pos hc]
      · simp at h
    · simp at h
  · simp at h
theorem appCS_ok {es bytes m : Nat} {s : SV} {xs : List SV} {H : SHeap} {r : SV × SHeap} (h : appCS es bytes m s xs H = some r) :
    appC es bytes m (denV ρ s) (denVs ρ xs) (denH ρ H) = some (denV ρ r.1, denH ρ r.2) := by
  unfold appCS at h
  split at h
  · split at h
    · rename_i hc
      injection h with h; subst h
      simp only [denV, appC, denVs_isCell, denH_next, denH_alloc, denO, denI, Int.toNat_natCast]
      rw [if_pos hc]
    · simp at h
  · rename_i i o n es' f
    split at h
    · simp at h
    · rename_i n' hn
      split at h
      · rename_i ro cs hg
        split at h
        · rename_i hc
          split at h
          · rename_i hf
            injection h with h; subst h
            simp only [denV, appC, denVs_isCell, denH_next, denH_alloc, denO, denI, Int.toNat_natCast, litN_ok hn, denH_get, hg, denVs_len, denVs_app, denVs_take, denVs_drop]
            rw [if_pos hc, if_pos hf]
          · rename_i hf
            split at h
            · simp at h
            · rename_i hro
              injection h with h; subst h
              simp only [denV, appC, denVs_isCell, denH_next, denH_alloc, denH_set, denO, denI, Int.toNat_natCast, litN_ok hn, denH_get, hg, denVs_len, denVs_app, denVs_take, denVs_drop]
              rw [if_pos hc, if_neg hf, if_neg hro]
        · simp at h
      · simp at h
  · simp at h
theorem isSlS_ok (v : SV) : isSl (denV ρ v) = isSlS v := by cases v <;> rfl
theorem appAS_ok (ok : ρ.Ok Th) {es bytes : Nat} {s x : SV} {H : SHeap} {r : SV × SHeap} (h : appAS es bytes s x H = some r) :
    appA es bytes (denV ρ s) (denV ρ x) (denH ρ H) = some (denV ρ r.1, denH ρ r.2) := by
  unfold appAS at h
  split at h
  · simp at h
  · rename_i xs m hx
    unfold appA
    simp only [srcCellsS_ok ok hx, isSlS_ok]
    split at h
    · rename_i hm
      rw [if_pos hm]
      split at h
      · rename_i hs
        injection h with h; subst h
        rw [if_pos hs]
      · simp at h
    · rename_i hm
      rw [if_neg hm]
      exact appCS_ok h
theorem appZAS_ok {es bytes : Nat} {z : List V} {s n : SV} {H : SHeap} {r : SV × SHeap} (h : appZAS es bytes z s n H = some r) :
    appZA es bytes z (denV ρ s) (denV ρ n) (denH ρ H) = some (denV ρ r.1, denH ρ r.2) := by
  unfold appZAS at h
  split at h
  · rename_i k
    simp only [denV, denI, appZA, isSlS_ok]
    split at h
    · rename_i hc
      rw [if_pos hc]
      split at h
      · rename_i hk
        rw [if_pos hk]
        split at h
        · rename_i hs
          injection h with h; subst h
          rw [if_pos hs]
        · simp at h
      · rename_i hk
        rw [if_neg hk]
        have := appCS_ok (ρ := ρ) h
        rwa [ofVs_rep] at this
    · simp at h
  · simp at h
theorem cvLLAS_ok {x : SV} {H : SHeap} {r : SV × SHeap} (h : cvLLAS x H = some r) : cvLLA (denV ρ x) (denH ρ H) = some (denV ρ r.1, denH ρ r.2) := by
  unfold cvLLAS at h
  split at h
  · rename_i i o n es f
    split at h
    · simp at h
    · rename_i m hm
      split at h
      · rename_i cs hg
        split at h
        · rename_i h0
          injection h with h; subst h
          simp only [denV, cvLLA, denH_get, hg, denO, litN_ok hm, Int.toNat_natCast]
          rw [if_pos h0]
        · simp at h
      · simp at h
  · simp at h
theorem copyAS_ok (ok : ρ.Ok Th) {es : Nat} {d s : SV} {H : SHeap} {r : SV × SHeap} (h : copyAS es d s H = some r) : copyA es (denV ρ d) (denV ρ s) (denH ρ H) = some (denV ρ r.1, denH ρ r.2) := by
  unfold copyAS at h
  split at h
  · rename_i xs m hx
    injection h with h; subst h
    simp only [denV, copyA, srcCellsS_ok ok hx, denI]
  · rename_i xs m i o n es' f hx
    split at h
    · simp at h
    · rename_i n' hn
      simp only [denV, copyA, srcCellsS_ok ok hx, litN_ok hn, Int.toNat_natCast]
      split at h
      · rename_i he
        rw [if_pos he]
        split at h
        · rename_i h0
          injection h with h; subst h
          rw [if_pos h0]; rfl
        · rename_i h0
          rw [if_neg h0]
          obtain ⟨H1, e1, e2⟩ := map_some' h
          subst e2
          have := storeS_ok (ρ := ρ) e1
          simp only [denV, denVs_take] at this
          rw [this]
          simp only [Option.map_some, denV, denI]
      · simp at h
  · simp at h
theorem nextAS_ok {it : SV} {H : SHeap} {r : SV × SHeap} (h : nextAS it H = some r) : nextA (denV ρ it) (denH ρ H) = some (denV ρ r.1, denH ρ r.2) := by
  unfold nextAS at h
  split at h
  · rename_i b
    split at h
    · rename_i s pos hg
      split at h
      · simp at h
      · rename_i l hl
        simp only [denV, nextA, denH_get, hg, denO, closeS_ok hl]
        split at h
        · rename_i hp
          injection h with h; subst h
          rw [if_pos hp]
          simp only [denV, denVs, denI, denH_set, denO, closeS_ok hl]
        · rename_i hp
          injection h with h; subst h
          rw [if_neg hp]
          simp only [denV, denVs]
    · simp at h
  · simp at h
theorem clrAS_ok {es : Nat} {z : List V} {x : SV} {H : SHeap} {r : SV × SHeap} (h : clrAS es z x H = some r) : clrA es z (denV ρ x) (denH ρ H) = some (denV ρ r.1, denH ρ r.2) := by
  unfold clrAS at h
  split at h
  · injection h with h; subst h; rfl
  · rename_i i o n es' f
    split at h
    · simp at h
    · rename_i n' hn
      simp only [denV, clrA, litN_ok hn, Int.toNat_natCast]
      split at h
      · rename_i he
        rw [if_pos he]
        split at h
        · rename_i h0
          injection h with h; subst h
          rw [if_pos h0]; rfl
        · rename_i h0
          rw [if_neg h0]
          obtain ⟨H1, e1, e2⟩ := map_some' h
          subst e2
          have := storeS_ok (ρ := ρ) e1
          simp only [denV, ofVs_rep] at this
          rw [this]; rfl
      · simp at h
  · simp at h

def CallOk (ρ : Val) (Th : Thy) (cs : SCall) (cf : FuncId → List V → Heap → Option (V × Heap)) : Prop :=
  ∀ f args H, Snd ρ Th (cs f args H) fun r => cf f (denVs ρ args) (denH ρ H) = some (denV ρ r.1, denH ρ r.2)
def PureOkS (ρ : Val) (Th : Thy) (ps : SPure) (pu : FuncId → List V → Option V) : Prop :=
  ∀ f args, Snd ρ Th (ps f args) fun v => pu f (denVs ρ args) = some (denV ρ v)

variable {cs : SCall} {ps : SPure} {cf : FuncId → List V → Heap → Option (V × Heap)} {pu : FuncId → List V → Option V}

theorem lopS_ok (ok : ρ.Ok Th) (hc : CallOk ρ Th cs cf) (op : EOp) (fr : SFr) (H : SHeap) : Snd ρ Th (lopS cs op fr H) fun r => lop cf op (denF ρ fr) (denH ρ H) = some (denV ρ r.1, denH ρ r.2) := by
  cases op with
  | st n a v =>
    refine Snd.ofOpt fun r h => ?_
    obtain ⟨H1, e1, e2⟩ := map_some' h
    subst e2
    have := storeS_ok (ρ := ρ) e1
    rw [← cells_den] at this
    simp only [lop, ev_den, this, Option.map_some]; rfl
  | call f args =>
    refine (hc f _ H).mono fun r h => ?_
    simp only [lop, map_ev_den, h]
  | callv x args =>
    simp only [lopS]
    split
    · rename_i f first cap hx
      refine (hc f _ H).mono fun r h => ?_
      rw [denVs_app, denVs_app] at h
      simp only [lop, ev_den, hx, denV, map_ev_den, h]
    · exact Snd.fail
  | app es bytes s x =>
    refine Snd.ofOpt fun r h => ?_
    simp only [lop, ev_den, appAS_ok ok h]
  | appZ es bytes z s n =>
    refine Snd.ofOpt fun r h => ?_
    simp only [lop, ev_den, appZAS_ok h]
  | cvLL x =>
    refine Snd.ofOpt fun r h => ?_
    simp only [lop, ev_den, cvLLAS_ok h]
  | next it =>
    refine Snd.ofOpt fun r h => ?_
    simp only [lop, ev_den, nextAS_ok h]
  | copy es d s =>
    refine Snd.ofOpt fun r h => ?_
    simp only [lop, ev_den, copyAS_ok ok h]
  | clr es z x =>
    refine Snd.ofOpt fun r h => ?_
    simp only [lop, ev_den, clrAS_ok h]
  | _ => exact Snd.fail

def QR' (ρ : Val) (pu : FuncId → List V → Option V) (op : EOp) (fr : SFr) (H : SHeap) (nid : Nat) (r : SV × Option SObj) : Prop :=
  qop' pu op (denF ρ fr) (denH ρ H) nid = some (denV ρ r.1, r.2.map (denO ρ))
theorem qopS'_ok (ok : ρ.Ok Th) (hp : PureOkS ρ Th ps pu) (op : EOp) (fr : SFr) (H : SHeap) (nid : Nat) : Snd ρ Th (qopS' ps op fr H nid) (QR' ρ pu op fr H nid) := by
  by_cases h : ∃ f args, op = .pcall f args
  · obtain ⟨f, args, rfl⟩ := h
    simp only [qopS']
    refine (hp f _).bind fun v hv => .ret ?_
    unfold QR'
    simp only [qop', map_ev_den, hv, Option.map_some, Option.map_none]
  · have e1 : qopS' ps op fr H nid = qopS op fr H nid := by cases op <;> first | rfl | exact absurd ⟨_, _, rfl⟩ h
    have e2 : ∀ fr' H', qop' pu op fr' H' nid = qop op fr' H' nid := by intro fr' H'; cases op <;> first | rfl | exact absurd ⟨_, _, rfl⟩ h
    rw [e1]
    refine (qopS_ok ok op fr H nid).mono fun r hr => ?_
    unfold QR'
    rw [e2]; exact hr

theorem wantedS_ok (o : EOper) (fr : SFr) : wantedA o (denF ρ fr) = wantedS o fr := by
  unfold wantedA wantedS
  cases o.guard with
  | none => rfl
  | some g =>
    obtain ⟨t, b⟩ := g
    simp only [denF_get, T.getF_eq]
    cases hx : fr.get t with
    | none => rfl
    | some v =>
      cases v with
      | bool c => cases b <;> cases c <;> rfl
      | _ => rfl
theorem putS_ok (fr : SFr) (d : Option Nat) (v : SV) : denF ρ (putS fr d v) = putA (denF ρ fr) d (denV ρ v) := by
  cases d with
  | none => rfl
  | some d => simp only [putS, T.setF_eq]; exact denF_set ρ fr v d

theorem runOpsS_ok (ok : ρ.Ok Th) (hc : CallOk ρ Th cs cf) (hp : PureOkS ρ Th ps pu) : ∀ (l : List EOper) (fr : SFr) (H : SHeap),
    Snd ρ Th (runOpsS cs ps l fr H) fun r => runOps cf pu l (denF ρ fr) (denH ρ H) = some (denF ρ r.1, denH ρ r.2)
  | [], fr, H => .ret rfl
  | o :: l, fr, H => by
    rw [runOpsS_cons]
    simp only [runOps, wantedS_ok]
    split
    · split
      · refine (lopS_ok ok hc o.op fr H).bind fun x hx => ?_
        simp only [hx]
        rw [← putS_ok]
        exact runOpsS_ok ok hc hp l _ _
      · refine (qopS'_ok ok hp o.op fr H H.next).bind fun x hx => ?_
        have hx' : qop' pu o.op (denF ρ fr) (denH ρ H) (denH ρ H).next = some (denV ρ x.1, x.2.map (denO ρ)) := hx
        rw [hx']
        cases hb : x.2 with
        | none =>
          simp only [Option.map_none]
          rw [← putS_ok]
          exact runOpsS_ok ok hc hp l _ _
        | some b =>
          simp only [Option.map_some]
          rw [← putS_ok, ← denH_alloc]
          exact runOpsS_ok ok hc hp l _ _
    · have : V.undef = denV ρ (.tup []) := rfl
      rw [this, ← putS_ok]
      exact runOpsS_ok ok hc hp l _ _

/-! ### A region whose order is open -/

mutual
theorem V.beq_refl' : ∀ (a : V), V.beq a a = true
  | .bool a => by simp [V.beq]
  | .int k n => by simp [V.beq]
  | .str s => by simp [V.beq]
  | .nilp => rfl
  | .ptr i o => by simp [V.beq]
  | .nils => rfl
  | .sl i o n es f => by simp [V.beq]
  | .fn f x y => by simp [V.beq, V.beqs_refl' x, V.beqs_refl' y]
  | .nilFn => rfl
  | .iface t v => by simp [V.beq, V.beq_refl' v]
  | .nilI => rfl
  | .nilm => rfl
  | .map i => by simp [V.beq]
  | .agg x => by simp [V.beq, V.beqs_refl' x]
  | .tup x => by simp [V.beq, V.beqs_refl' x]
theorem V.beqs_refl' : ∀ (a : List V), V.beqs a a = true
  | [] => rfl
  | x :: xs => by simp [V.beqs, V.beq_refl' x, V.beqs_refl' xs]
end
theorem sameBS_ok {a b : Option SObj} (h : sameBS a b = true) : sameB (a.map (denO ρ)) (b.map (denO ρ)) = true := by
  unfold sameBS at h
  split at h
  · rfl
  · simp only [Bool.and_eq_true] at h
    obtain ⟨h1, h2⟩ := h
    rw [SV.beqs_eq _ _ h2]
    simp only [Option.map_some, denO, sameB, Obj.beq, h1, V.beqs_refl', Bool.and_self]
  · simp only [Bool.and_eq_true] at h
    obtain ⟨h1, h2⟩ := h
    rw [SS.beq_eq h1, Nat.eq_of_beq_eq_true h2]
    simp [denO, sameB, Obj.beq]
  · simp at h

theorem okAtS_ok (ok : ρ.Ok Th) (hp : PureOkS ρ Th ps pu) (op : EOp) (fr : SFr) (nid : Nat) (v : SV) (b : Option SObj) (H : SHeap) :
    Snd ρ Th (okAtS ps op fr nid v b H) fun _ => okAt pu op (denF ρ fr) nid (denV ρ v) (b.map (denO ρ)) (denH ρ H) = true := by
  refine (qopS'_ok ok hp op fr H nid).bind fun r hr => (Snd.test _).mono fun _ h => ?_
  simp only [Bool.and_eq_true] at h
  have hr' : qop' pu op (denF ρ fr) (denH ρ H) nid = some (denV ρ r.1, r.2.map (denO ρ)) := hr
  unfold okAt
  rw [hr']
  simp only [SV.beq_eq _ _ h.1, V.beq_refl', sameBS_ok h.2, Bool.and_self]

theorem allS_ok {α : Type} {f : α → SM Unit} {P : α → Prop} (h : ∀ a, Snd ρ Th (f a) fun _ => P a) : ∀ l : List α, Snd ρ Th (allS f l) fun _ => ∀ a ∈ l, P a
  | [] => .ret (by simp)
  | a :: r => (h a).bind fun _ ha => (allS_ok h r).mono fun _ hr x hx => by
    rcases List.mem_cons.1 hx with rfl | hx
    · exact ha
    · exact hr x hx

def denPd (ρ : Val) (pd : List (Nat × Nat × SObj)) : List (Nat × Nat × Obj) := pd.map fun x => (x.1, x.2.1, denO ρ x.2.2)
def denR (ρ : Val) (c : SRec) : Rec := { op := c.op, fr := denF ρ c.fr, v := denV ρ c.v, b := c.b.map (denO ρ), hi := c.hi, nid := c.nid }
theorem commitS_ok (m : Nat) : ∀ (pd : List (Nat × Nat × SObj)) (H : SHeap), denH ρ (commitS m pd H) = commit m (denPd ρ pd) (denH ρ H)
  | [], H => rfl
  | (hi, id, b) :: r, H => by
    simp only [commitS, denPd, List.map_cons, commit]
    split
    · rw [denH_set, commitS_ok m r H]; rfl
    · rw [commitS_ok m r H]; rfl
theorem addPendS_ok (hi id : Nat) (b : Option SObj) (pd : List (Nat × Nat × SObj)) : denPd ρ (addPendS hi id b pd) = addPend hi id (b.map (denO ρ)) (denPd ρ pd) := by
  cases b <;> rfl

theorem runDrawS_ok (ok : ρ.Ok Th) (hc : CallOk ρ Th cs cf) (hp : PureOkS ρ Th ps pu) (base : Nat) : ∀ (l : List EOper) (fr : SFr) (H : SHeap) (Hs : List SHeap) (m : Nat) (pend : List (Nat × Nat × SObj)) (watch : List SRec),
    Snd ρ Th (runDrawS cs ps base l fr H Hs m pend watch) fun r => runDraw cf pu base l (denF ρ fr) (denH ρ H) (Hs.map (denH ρ)) m (denPd ρ pend) (watch.map (denR ρ)) = some (denF ρ r.1, denH ρ r.2)
  | [], fr, H, Hs, m, pend, watch => .ret (by simp only [runDraw, commitS_ok])
  | o :: l, fr, H, Hs, m, pend, watch => by
    unfold runDrawS
    simp only [runDraw, wantedS_ok]
    split
    · have h1 : Snd ρ Th (if wantedS o fr then lopS cs o.op fr (commitS m pend H) else .ret (.tup [], commitS m pend H)) fun x =>
          (if wantedS o fr = true then lop cf o.op (denF ρ fr) (commit m (denPd ρ pend) (denH ρ H)) else some (V.undef, commit m (denPd ρ pend) (denH ρ H))) = some (denV ρ x.1, denH ρ x.2) := by
        rw [← commitS_ok]
        split
        · exact lopS_ok ok hc o.op fr _
        · exact .ret rfl
      refine h1.bind fun x hx => ?_
      rw [hx]
      have h2 : Snd ρ Th (allS (fun (c : SRec) => if c.hi ≤ m then .ret () else okAtS ps c.op c.fr c.nid c.v c.b x.2) watch) fun _ =>
          ∀ c ∈ watch, (decide (c.hi ≤ m) || okAt pu c.op (denF ρ c.fr) c.nid (denV ρ c.v) (c.b.map (denO ρ)) (denH ρ x.2)) = true := by
        refine allS_ok (fun c => ?_) watch
        split
        · rename_i hle; exact .ret (by simp [hle])
        · refine (okAtS_ok ok hp _ _ _ _ _ _).mono fun _ h => ?_
          rw [h]; simp
      refine h2.bind fun _ hw => ?_
      have hall : ((watch.map (denR ρ)).all fun c => decide (c.hi ≤ m) || okAt pu c.op c.fr c.nid c.v c.b (denH ρ x.2)) = true := by
        rw [List.all_map, List.all_eq_true]
        intro c hcm
        exact hw c hcm
      simp only [hall, if_true]
      rw [← putS_ok]
      exact runDrawS_ok ok hc hp base l _ _ (H :: Hs) _ _ _
    · split
      · refine (qopS'_ok ok hp o.op fr H (base + o.slot)).bind fun x hx => ?_
        have hx' : qop' pu o.op (denF ρ fr) (denH ρ H) (base + o.slot) = some (denV ρ x.1, x.2.map (denO ρ)) := hx
        rw [hx']
        refine (allS_ok (P := fun H' => okAt pu o.op (denF ρ fr) (base + o.slot) (denV ρ x.1) (x.2.map (denO ρ)) (denH ρ H') = true) (fun H' => okAtS_ok ok hp _ _ _ _ _ _) _).bind fun _ hw => ?_
        have hall : (((Hs.map (denH ρ)).take (m - o.lo)).all (okAt pu o.op (denF ρ fr) (base + o.slot) (denV ρ x.1) (x.2.map (denO ρ)))) = true := by
          rw [← List.map_take, List.all_map, List.all_eq_true]
          intro H' hH
          exact hw H' hH
        simp only [hall, if_true]
        rw [← putS_ok, ← addPendS_ok]
        have := runDrawS_ok ok hc hp base l (putS fr o.dst x.1) H Hs m (addPendS o.hi (base + o.slot) x.2 pend)
          (if m < o.hi then { op := o.op, fr := fr, v := x.1, b := x.2, hi := o.hi, nid := base + o.slot } :: watch else watch)
        refine this.mono fun r hr => ?_
        rw [← hr]
        congr 1
        split
        · rfl
        · rfl
      · have : V.undef = denV ρ (.tup []) := rfl
        rw [this, ← putS_ok]
        exact runDrawS_ok ok hc hp base l _ _ Hs _ _ _

/-! ### Code -/

theorem resOfS_ok {fr : SFr} {H : SHeap} {r : ERes} {v : SV} (h : resOfS fr H r = some v) : resOf (denF ρ fr) (denH ρ H) r = some (denV ρ v) := by
  have g : ∀ n : Nat, ((denF ρ fr).get n).getD V.undef = denV ρ ((fr.get n).getD (.tup [])) := by
    intro n; rw [denF_get]; cases fr.get n <;> rfl
  cases r with
  | t n => simp only [resOfS, T.getF_eq, Option.some.injEq] at h; subst h; simp only [resOf, g]
  | c1 a =>
    simp only [resOfS, T.getF_eq] at h
    split at h
    · rename_i i o hp
      split at h
      · rename_i ro cs hg
        simp only [resOf, g, hp, denV, denH_get, hg, denO, denVs_get, h, Option.map_some]
      · simp at h
    · simp at h
  | cn a n =>
    simp only [resOfS, T.getF_eq] at h
    split at h
    · rename_i i o hp
      split at h
      · rename_i ro cs hg
        split at h
        · rename_i hle
          injection h with h; subst h
          simp only [resOf, g, hp, denV, denH_get, hg, denO, denVs_len, denVs_take, denVs_drop]
          rw [if_pos hle]
        · simp at h
      · simp at h
    · simp at h
theorem resListS_ok {fr : SFr} {H : SHeap} : ∀ {rs : List ERes} {vs : List SV}, resListS fr H rs = some vs → resList (denF ρ fr) (denH ρ H) rs = some (denVs ρ vs)
  | [], vs, h => by simp [resListS] at h; subst h; rfl
  | r :: rs, vs, h => by
    simp only [resListS] at h
    split at h
    · rename_i v vs' h1 h2
      injection h with h; subst h
      simp only [resList, resOfS_ok h1, resListS_ok h2, denVs]
    · simp at h
theorem tupS_ok (vs : List SV) : denV ρ (tupS vs) = tupOf (denVs ρ vs) := by
  cases vs with
  | nil => rfl
  | cons v vs => cases vs <;> rfl
theorem mkFrS_ok : ∀ (args : List SV) (i : Nat) (fr : SFr), denF ρ (mkFrS args i fr) = mkFr (denVs ρ args) i (denF ρ fr)
  | [], _, _ => rfl
  | v :: vs, i, fr => by simp only [mkFrS, denVs, mkFr, mkFrS_ok vs, denF_set, T.setF_eq]
mutual
theorem ground_den : ∀ v : SV, (denV ρ v).ground = v.ground
  | .bool b => rfl
  | .int k n => rfl
  | .str s => rfl
  | .nilp => rfl
  | .ptr i o => rfl
  | .nils => rfl
  | .sl i o n es f => rfl
  | .fn f a b => by simp only [denV, V.ground, SV.ground, grounds_den a, grounds_den b]
  | .nilFn => rfl
  | .iface t v => by simp only [denV, V.ground, SV.ground, ground_den v]
  | .nilI => rfl
  | .nilm => rfl
  | .map i => rfl
  | .agg cs => by simp only [denV, V.ground, SV.ground, grounds_den cs]
  | .tup vs => by simp only [denV, V.ground, SV.ground, grounds_den vs]
theorem grounds_den : ∀ l : List SV, V.grounds (denVs ρ l) = SV.grounds l
  | [] => rfl
  | v :: r => by simp only [denVs, V.grounds, SV.grounds, ground_den v, grounds_den r]
end

structure SEnv.Ok (ρ : Val) (Th : Thy) (S : SEnv) (E : Env) : Prop where
  fn : ∀ f, S.fn f = E.fn f
  glob : denH ρ S.glob = E.glob
  none : ∀ f, S.known f = none → E.known f = none
  some : ∀ f h, S.known f = some h → ∃ g, E.known f = some g ∧ ∀ args, Snd ρ Th (h args) fun v => g (denVs ρ args) = some (denV ρ v)

def RunOk (ρ : Val) (Th : Thy) (rs : SRun) (r : Run) : Prop :=
  ∀ c fr H, Snd ρ Th (rs c fr H) fun x => r c (denF ρ fr) (denH ρ H) = some (x.1, denF ρ x.2.1, denH ρ x.2.2)

variable {S : SEnv} {E : Env} {rs : SRun} {r : Run}

theorem callAS_ok (se : S.Ok ρ Th E) (h : RunOk ρ Th rs r) : CallOk ρ Th (callAS S rs) (callA E r) := by
  intro f args H
  unfold callAS callA
  rw [← se.fn f]
  split
  · exact Snd.fail
  · rename_i ef hef
    refine (h ef.body _ H).bind fun x hx => ?_
    rw [mkFrS_ok] at hx
    have hx' : r ef.body (mkFr (denVs ρ args) 0 T.nil) (denH ρ H) = some (x.1, denF ρ x.2.1, denH ρ x.2.2) := hx
    simp only [hx', hef]
    obtain ⟨e, fr', H'⟩ := x
    cases e with
    | exit j => exact Snd.fail
    | nrm =>
      simp only
      split
      · rename_i vs hvs
        refine .ret ?_
        simp only [resListS_ok hvs, Option.map_some, tupS_ok]
      · exact Snd.fail
    | ret =>
      simp only
      split
      · rename_i vs hvs
        refine .ret ?_
        simp only [resListS_ok hvs, Option.map_some, tupS_ok]
      · exact Snd.fail

theorem pureAS_ok (se : S.Ok ρ Th E) (h : RunOk ρ Th rs r) : PureOkS ρ Th (pureAS S rs) (pureA E r) := by
  intro f args
  unfold pureAS pureA
  split
  · rename_i k hk
    obtain ⟨g, hg, hs⟩ := se.some f k hk
    rw [hg]
    exact hs args
  · rename_i hk
    rw [se.none f hk]
    simp only [grounds_den]
    split
    · refine (callAS_ok se h f args S.glob).bind fun x hx => ?_
      rw [se.glob] at hx
      simp only [hx, ground_den]
      split
      · exact .ret rfl
      · exact Snd.fail
    · exact Snd.fail

theorem stepS_ok (ok : ρ.Ok Th) (se : S.Ok ρ Th E) (h : RunOk ρ Th rs r) : RunOk ρ Th (stepS S rs) (step E r) := by
  intro c fr H
  cases c with
  | skip => exact .ret rfl
  | ops l =>
    simp only [stepS, step]
    refine (runOpsS_ok ok (callAS_ok se h) (pureAS_ok se h) l fr H).bind fun x hx => .ret ?_
    simp only [hx, Option.map_some]
  | draw k l =>
    simp only [stepS, step]
    refine (runDrawS_ok ok (callAS_ok se h) (pureAS_ok se h) H.next l fr (H.skip k) [] 0 [] []).bind fun x hx => .ret ?_
    have hx' : runDraw (callA E r) (pureA E r) (denH ρ H).next l (denF ρ fr) ((denH ρ H).skip k) [] 0 [] [] = some (denF ρ x.1, denH ρ x.2) := hx
    simp only [hx', Option.map_some]
  | seq a b =>
    simp only [stepS, step]
    refine (h a fr H).bind fun x hx => ?_
    simp only [hx]
    obtain ⟨e, fr', H'⟩ := x
    cases e with
    | nrm => exact h b fr' H'
    | ret => exact .ret rfl
    | exit j => exact .ret rfl
  | cond c a b =>
    simp only [stepS, step, ev_den]
    split
    · rename_i hb; simp only [hb, denV]; exact h a fr H
    · rename_i hb; simp only [hb, denV]; exact h b fr H
    · exact Snd.fail
  | block id b =>
    simp only [stepS, step]
    refine (h b fr H).bind fun x hx => ?_
    simp only [hx]
    obtain ⟨e, fr', H'⟩ := x
    cases e with
    | nrm => exact .ret rfl
    | ret => exact .ret rfl
    | exit j =>
      simp only
      split
      · exact .ret rfl
      · exact .ret rfl
  | loop b =>
    simp only [stepS, step]
    refine (h b fr H).bind fun x hx => ?_
    simp only [hx]
    obtain ⟨e, fr', H'⟩ := x
    cases e with
    | nrm => exact h (.loop b) fr' H'
    | ret => exact .ret rfl
    | exit j => exact .ret rfl
  | exit id => exact .ret rfl
  | ret => exact .ret rfl

theorem execS_ok (ok : ρ.Ok Th) (se : S.Ok ρ Th E) : ∀ n, RunOk ρ Th (execS S n) (exec E n)
  | 0 => fun c fr H => Snd.fail
  | n + 1 => stepS_ok ok se (execS_ok ok se n)
theorem callS_ok (ok : ρ.Ok Th) (se : S.Ok ρ Th E) (n : Nat) : CallOk ρ Th (callS S n) (call E n) := callAS_ok se (execS_ok ok se n)

/-- Is all that may come true? -/
def isTrueS : SV → Bool
  | .bool true => true
  | _ => false
noncomputable def lawS (S : SEnv) (n : Nat) (f : FuncId) (args : List SV) (H : SHeap) (Th : Thy) (F : Facts') : Bool :=
  match callS S n f args H Th F with
  | some l => l.all fun x => isTrueS x.2.1
  | none => false
theorem lawS_ok (ok : ρ.Ok Th) (se : S.Ok ρ Th E) {n : Nat} {f : FuncId} {args : List SV} {H : SHeap} {F : Facts'} (hs : Sat ρ F) (h : lawS S n f args H Th F = true) :
    ∃ H', call E n f (denVs ρ args) (denH ρ H) = some (.bool true, H') := by
  unfold lawS at h
  split at h
  · rename_i l hl
    obtain ⟨x, hx, _, hr⟩ := callS_ok ok se n f args H F l hl hs
    have := List.all_eq_true.1 h x hx
    refine ⟨denH ρ x.2.2, ?_⟩
    rw [hr]
    cases hv : x.2.1 with
    | bool b => rw [hv] at this; cases b <;> simp [isTrueS] at this ⊢; rfl
    | _ => rw [hv] at this; simp [isTrueS] at this
  · simp at h
end
end Go.Ev
