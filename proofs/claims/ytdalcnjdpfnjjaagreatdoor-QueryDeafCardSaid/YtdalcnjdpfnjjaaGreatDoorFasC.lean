/- The quick run: numbers, questions, quiet operations. No program in sight. -/
import Derived.Test.YtdalcnjdpfnjjaaGreatDoorFasB
set_option linter.unusedSimpArgs false
set_option linter.unusedVariables false
namespace Go.Ev
open Go
noncomputable section

theorem ask_eq_lit (a b : Int) : SM.ask (.eqI (.lit a) (.lit b)) = .ret (decide (a = b)) := by
  funext Th F
  simp only [SM.ask, SM.canon, SM.ask0, lookA, plainA, SM.ret]
  rw [show decide (b = a) = decide (a = b) from decide_eq_decide.2 eq_comm]
theorem ask_lt_lit (a b : Int) : SM.ask (.ltI (.lit a) (.lit b)) = .ret (decide (a < b)) := by
  funext Th F
  simp only [SM.ask, SM.canon, SM.ask0, lookA, plainA, SM.ret]
theorem need_eq_lit (a b : Int) (c : Bool) : SM.need (.eqI (.lit a) (.lit b)) c = if decide (a = b) = c then .ret () else .fail := by
  funext Th F
  simp only [SM.need, SM.canon, SM.need0, lookA, plainA]
  rw [show decide (b = a) = decide (a = b) from decide_eq_decide.2 eq_comm]
  cases c <;> cases decide (a = b) <;> rfl
theorem need_lt_lit (a b : Int) (c : Bool) : SM.need (.ltI (.lit a) (.lit b)) c = if decide (a < b) = c then .ret () else .fail := by
  funext Th F
  simp only [SM.need, SM.canon, SM.need0, lookA, plainA]
  cases c <;> cases decide (a < b) <;> rfl

def eqF (x y : SI) : SM Bool := x.litK (fun a => y.litK (fun b => .ret (eqZ a b)) (SM.ask (.eqI x y))) (SM.ask (.eqI x y))
def ltF (x y : SI) : SM Bool := x.litK (fun a => y.litK (fun b => .ret (ltZ a b)) (SM.ask (.ltI x y))) (SM.ask (.ltI x y))
theorem eqF_eq (x y : SI) : eqF x y = SM.ask (.eqI x y) := by
  cases x with
  | lit a =>
    cases y with
    | lit b => show SM.ret (eqZ a b) = _; rw [ask_eq_lit, eqZ_eq]
    | _ => rfl
  | _ => rfl
theorem ltF_eq (x y : SI) : ltF x y = SM.ask (.ltI x y) := by
  cases x with
  | lit a =>
    cases y with
    | lit b => show SM.ret (ltZ a b) = _; rw [ask_lt_lit, ltZ_eq]
    | _ => rfl
  | _ => rfl

/-! ### Numbers -/
def shlZ (k : IntKind) (x y : Int) : Int := nn x y (fun a b => wrapF k (.ofNat (Nat.mul a (Nat.pow 2 (Nat.min b (k.bits)))))) (arith .shl k x y)
def shrZ (k : IntKind) (x y : Int) : Int := nn x y (fun a b => .ofNat (Nat.div a (Nat.pow 2 (Nat.min b (k.bits))))) (arith .shr k x y)
theorem shlZ_eq (k : IntKind) (x y : Int) : shlZ k x y = arith .shl k x y := by
  cases x with
  | negSucc a => cases y <;> rfl
  | ofNat a =>
    cases y with
    | negSucc b => rfl
    | ofNat b =>
      show wrapF k (.ofNat (a * 2 ^ (min b k.bits))) = k.wrap ((a : Int) * 2 ^ (min b k.bits))
      rw [wrapF_eq]
      show k.wrap ((a * 2 ^ (min b k.bits) : Nat) : Int) = _
      rw [Int.natCast_mul, Int.natCast_pow]
      rfl
theorem shrZ_eq (k : IntKind) (x y : Int) : shrZ k x y = arith .shr k x y := by
  cases x with
  | negSucc a => cases y <;> rfl
  | ofNat a =>
    cases y with
    | negSucc b => rfl
    | ofNat b =>
      show ((a / 2 ^ (min b k.bits) : Nat) : Int) = Int.fdiv (a : Int) (2 ^ (min b k.bits))
      rw [show ((2 : Int) ^ (min b k.bits)) = ((2 ^ (min b k.bits) : Nat) : Int) by rw [Int.natCast_pow]; try rfl]
      rw [Int.fdiv_eq_ediv_of_nonneg _ (Int.natCast_nonneg _)]
      try rfl
def arB (o : BinOp) : Bx (IntKind → Int → Int → Int) :=
  match o with
  | .shl => ⟨shlZ⟩
  | .shr => ⟨shrZ⟩
  | o => arithB o
theorem arB_eq (o : BinOp) (k : IntKind) (x y : Int) : (arB o).run k x y = arith o k x y := by
  cases o with
  | shl => exact shlZ_eq k x y
  | shr => exact shrZ_eq k x y
  | _ => simp only [arB]; exact arithB_eq _ k x y
/-- An operation's answer. -/
def retB (o : BinOp) : Bx (IntKind → SI → SI → SM SV) :=
  ⟨fun k x y => x.litK (fun a => y.litK (fun b => forceI ((arB o).run k a b) fun z => .ret (.int k (.lit z))) (retI k (.op o k x y))) (retI k (.op o k x y))⟩
theorem retI_lit (k : IntKind) (n : Int) : retI k (.lit n) = .ret (.int k (.lit n)) := by
  unfold retI
  have : SM.num (.lit n) = .ret (.lit n) := by funext Th F; rfl
  rw [this, SM.bind_ret]
theorem retB_eq (o : BinOp) (k : IntKind) (x y : SI) : (retB o).run k x y = retI k (opI o k x y) := by
  cases x with
  | lit a =>
    cases y with
    | lit b => show forceI ((arB o).run k a b) (fun z => SM.ret (SV.int k (.lit z))) = _; rw [forceI_eq, arB_eq]; unfold opI; rw [retI_lit]
    | _ => rfl
  | _ => rfl
def intB (op : BinOp) : Bx (IntKind → SI → SI → SM SV) :=
  match op with
  | .quo => ⟨fun k x y => y.litK (fun b => Bool.rec (motive := fun _ => SM SV) ((retB .quo).run k x y) .fail (eqZ b 0)) (intOpS .quo k x y)⟩
  | .rem => ⟨fun k x y => y.litK (fun b => Bool.rec (motive := fun _ => SM SV) ((retB .rem).run k x y) .fail (eqZ b 0)) (intOpS .rem k x y)⟩
  | .eql => ⟨fun k x y => (eqF x y).bind fun b => .ret (.bool b)⟩
  | .neq => ⟨fun k x y => (eqF x y).bind fun b => .ret (.bool (Bool.rec (motive := fun _ => Bool) true false b))⟩
  | .lss => ⟨fun k x y => (ltF x y).bind fun b => .ret (.bool b)⟩
  | .leq => ⟨fun k x y => (ltF y x).bind fun b => .ret (.bool (Bool.rec (motive := fun _ => Bool) true false b))⟩
  | .gtr => ⟨fun k x y => (ltF y x).bind fun b => .ret (.bool b)⟩
  | .geq => ⟨fun k x y => (ltF x y).bind fun b => .ret (.bool (Bool.rec (motive := fun _ => Bool) true false b))⟩
  | .add => retB .add
  | .sub => retB .sub
  | .mul => retB .mul
  | .and => retB .and
  | .or => retB .or
  | .xor => retB .xor
  | .andNot => retB .andNot
  | _ => ⟨fun _ _ _ => .fail⟩
theorem notF_eq (b : Bool) : Bool.rec (motive := fun _ => Bool) true false b = !b := by cases b <;> rfl
theorem intB_eq (op : BinOp) (k : IntKind) (x y : SI) : (intB op).run k x y = intOpS op k x y := by
  have qr : ∀ o, (o = .quo ∨ o = .rem) → y.litK (fun b => Bool.rec (motive := fun _ => SM SV) ((retB o).run k x y) .fail (eqZ b 0)) (intOpS o k x y) = intOpS o k x y := by
    intro o ho
    cases y with
    | lit b =>
      show Bool.rec (motive := fun _ => SM SV) ((retB o).run k x (.lit b)) .fail (eqZ b 0) = _
      rw [boolRec_if, eqZ_eq, retB_eq]
      rcases ho with rfl | rfl
      all_goals
        simp only [intOpS, need_eq_lit]
        by_cases h : b = 0
        · simp only [h, decide_true, if_true]; rw [if_neg (by simp), SM.bind_fail]
        · simp only [h, decide_false]; rw [if_neg (by simp), if_pos trivial, SM.bind_ret]
    | _ => rfl
  cases op with
  | quo => exact qr _ (.inl rfl)
  | rem => exact qr _ (.inr rfl)
  | eql | neq | lss | leq | gtr | geq => simp only [intB, intOpS, eqF_eq, ltF_eq, notF_eq]
  | add | sub | mul | and | or | xor | andNot => simp only [intB, intOpS, retB_eq]
  | _ => rfl
def shB (op : BinOp) : Bx (IntKind → SI → SI → SM SV) :=
  ⟨fun k x y => y.litK (fun b => Bool.rec (motive := fun _ => SM SV) ((retB op).run k x y) .fail (ltZ b 0)) (shiftOpS op k x y)⟩
theorem shB_eq (op : BinOp) (h : op = .shl ∨ op = .shr) (k : IntKind) (x y : SI) : (shB op).run k x y = shiftOpS op k x y := by
  cases y with
  | lit b =>
    show Bool.rec (motive := fun _ => SM SV) ((retB op).run k x (.lit b)) .fail (ltZ b 0) = _
    rw [boolRec_if, ltZ_eq, retB_eq]
    unfold shiftOpS
    rw [need_lt_lit]
    by_cases hb : b < 0
    · simp only [hb, decide_true, if_true]; rw [if_neg (by simp), SM.bind_fail]
    · simp only [hb, decide_false]
      rw [if_neg (by simp), if_pos trivial, SM.bind_ret]
      rcases h with rfl | rfl <;> rfl
  | _ => rfl
def ibinB (op : BinOp) : Bx (SV → SV → SM SV) :=
  match op with
  | .shl => ⟨fun x y => x.intK (fun k a => y.intK (fun _ b => (shB .shl).run k a b) .fail) .fail⟩
  | .shr => ⟨fun x y => x.intK (fun k a => y.intK (fun _ b => (shB .shr).run k a b) .fail) .fail⟩
  | op => ⟨fun x y => x.intK (fun k a => y.intK (fun l b => Bool.rec (motive := fun _ => SM SV) .fail ((intB op).run k a b) (kEq k l)) .fail) .fail⟩
theorem ibinB_eq (op : BinOp) (x y : SV) : (ibinB op).run x y = ibinS op x y := by
  have g : ∀ o, o ≠ .shl → o ≠ .shr → x.intK (fun k a => y.intK (fun l b => Bool.rec (motive := fun _ => SM SV) .fail ((intB o).run k a b) (kEq k l)) .fail) .fail = ibinS o x y := by
    intro o h1 h2
    cases x with
    | int k a =>
      cases y with
      | int l b =>
        show Bool.rec (motive := fun _ => SM SV) .fail ((intB o).run k a b) (kEq k l) = _
        rw [boolRec_if, kEq_eq, intB_eq]
        unfold ibinS
        cases o <;> first | exact absurd rfl h1 | exact absurd rfl h2 | (simp only [decide_eq_true_eq])
      | _ => cases o <;> first | exact absurd rfl h1 | exact absurd rfl h2 | rfl
    | _ => cases o <;> first | exact absurd rfl h1 | exact absurd rfl h2 | rfl
  cases op with
  | shl =>
    cases x with
    | int k a =>
      cases y with
      | int l b => exact shB_eq .shl (.inl rfl) k a b
      | _ => rfl
    | _ => rfl
  | shr =>
    cases x with
    | int k a =>
      cases y with
      | int l b => exact shB_eq .shr (.inr rfl) k a b
      | _ => rfl
    | _ => rfl
  | _ => exact g _ (by simp) (by simp)
def cvB (k : IntKind) : Bx (SV → SM SV) :=
  ⟨fun x => x.intK (fun _ n => n.litK (fun a => forceI (wrapF k a) fun z => .ret (.int k (.lit z))) (retI k (.cv k n))) .fail⟩
theorem cvB_eq (k : IntKind) (x : SV) : (cvB k).run x = match x with | .int _ n => retI k (cvI k n) | _ => .fail := by
  cases x with
  | int l n =>
    cases n with
    | lit a => show forceI (wrapF k a) (fun z => SM.ret (SV.int k (.lit z))) = _; rw [forceI_eq, wrapF_eq]; simp only [cvI, retI_lit]
    | _ => rfl
  | _ => rfl

/-! ### Cell by cell -/
def leafB (k : Nat) : Bx (SV → SV → SM Bool) :=
  match k with
  | 0 => ⟨fun x y => x.boolK (fun a => y.boolK (fun b => .ret (a == b)) .fail) .fail⟩
  | 1 => ⟨fun x y => x.intK (fun k a => y.intK (fun l b => Bool.rec (motive := fun _ => SM Bool) .fail (eqF a b) (kEq k l)) .fail) .fail⟩
  | 2 => ⟨fun x y => x.strK (fun a => y.strK (fun b => eqSS a b) .fail) .fail⟩
  | _ => ⟨fun _ _ => .fail⟩
theorem leafB_eq (k : Nat) (x y : SV) : (leafB k).run x y = leafEqS k x y := by
  match k with
  | 0 => cases x <;> first | rfl | (cases y <;> rfl)
  | 1 =>
    cases x with
    | int k a =>
      cases y with
      | int l b =>
        show Bool.rec (motive := fun _ => SM Bool) .fail (eqF a b) (kEq k l) = _
        rw [boolRec_if, kEq_eq, eqF_eq]
        simp only [leafEqS, decide_eq_true_eq]
      | _ => rfl
    | _ => rfl
  | 2 => cases x <;> first | rfl | (cases y <;> rfl)
  | n + 3 => cases x <;> first | rfl | (cases y <;> rfl)
def cellsB (ks : List Nat) : Bx (List SV → List SV → SM Bool) :=
  List.rec (motive := fun _ => Bx (List SV → List SV → SM Bool))
    ⟨fun as bs => List.rec (motive := fun _ => SM Bool) (List.rec (motive := fun _ => SM Bool) (.ret true) (fun _ _ _ => .fail) bs) (fun _ _ _ => .fail) as⟩
    (fun k _ ih => ⟨fun as bs => List.rec (motive := fun _ => SM Bool) .fail (fun a as _ => List.rec (motive := fun _ => SM Bool) .fail (fun b bs _ => ((leafB k).run a b).bind fun e => Bool.rec (motive := fun _ => SM Bool) (.ret false) (ih.run as bs) e) bs) as⟩) ks
theorem cellsB_eq : ∀ (ks : List Nat) (as bs : List SV), (cellsB ks).run as bs = cellsEqS ks as bs
  | [], [], [] => rfl
  | [], [], _ :: _ => rfl
  | [], _ :: _, [] => rfl
  | [], _ :: _, _ :: _ => rfl
  | k :: ks, [], bs => by cases bs <;> rfl
  | k :: ks, a :: as, [] => rfl
  | k :: ks, a :: as, b :: bs => by
    show ((leafB k).run a b).bind (fun e => Bool.rec (motive := fun _ => SM Bool) (.ret false) ((cellsB ks).run as bs) e) = _
    rw [leafB_eq, cellsB_eq ks as bs]
    simp only [cellsEqS]
    congr 1
    funext e
    cases e <;> rfl

/-! ### Nil, or not -/
def nilB (kd : Nat) : Bx (SV → Nat) :=
  match kd with
  | 0 => ⟨fun v => SV.rec (motive_1 := fun _ => Nat) (motive_2 := fun _ => PUnit) (fun _ => 2) (fun _ _ => 2) (fun _ => 2) 0 (fun _ _ => 1) 2 (fun _ _ _ _ _ => 2) (fun _ _ _ _ _ => 2) 2 (fun _ _ _ => 2) 2 2 (fun _ => 2) (fun _ _ => 2) (fun _ _ => 2) PUnit.unit (fun _ _ _ _ => PUnit.unit) v⟩
  | 1 => ⟨fun v => SV.rec (motive_1 := fun _ => Nat) (motive_2 := fun _ => PUnit) (fun _ => 2) (fun _ _ => 2) (fun _ => 2) 2 (fun _ _ => 2) 0 (fun _ _ _ _ _ => 1) (fun _ _ _ _ _ => 2) 2 (fun _ _ _ => 2) 2 2 (fun _ => 2) (fun _ _ => 2) (fun _ _ => 2) PUnit.unit (fun _ _ _ _ => PUnit.unit) v⟩
  | 2 => ⟨fun v => SV.rec (motive_1 := fun _ => Nat) (motive_2 := fun _ => PUnit) (fun _ => 2) (fun _ _ => 2) (fun _ => 2) 2 (fun _ _ => 2) 2 (fun _ _ _ _ _ => 2) (fun _ _ _ _ _ => 1) 0 (fun _ _ _ => 2) 2 2 (fun _ => 2) (fun _ _ => 2) (fun _ _ => 2) PUnit.unit (fun _ _ _ _ => PUnit.unit) v⟩
  | _ => ⟨fun _ => 2⟩
def nilEq (a b : Nat) : Option Bool := match a, b with
  | 0, 0 => some true
  | 0, 1 => some false
  | 1, 0 => some false
  | _, _ => none
def neqB (neg : Bool) (kd : Nat) : Bx (SV → SV → Option SV) :=
  ⟨fun x y => Option.rec (motive := fun _ => Option SV) none (fun b => some (.bool (Bool.rec (motive := fun _ => Bool) b (Bool.rec (motive := fun _ => Bool) true false b) neg))) (nilEq ((nilB kd).run x) ((nilB kd).run y))⟩
theorem neqB_eq (fr : SFr) (H : SHeap) (nid : Nat) (neg : Bool) (kd : Nat) (x y : EO) : ((neqB neg kd).run (evS fr x) (evS fr y)).map (·, none) = pl_neq0 fr H nid neg kd x y := by
  unfold pl_neq0
  generalize evS fr x = a
  generalize evS fr y = b
  match kd with
  | 0 => cases neg <;> cases a <;> first | rfl | (cases b <;> rfl)
  | 1 => cases neg <;> cases a <;> first | rfl | (cases b <;> rfl)
  | 2 => cases neg <;> cases a <;> first | rfl | (cases b <;> rfl)
  | n + 3 => cases neg <;> cases a <;> first | rfl | (cases b <;> rfl)

/-! ### Places -/
def inF (b o es : Nat) (k n : SI) : SM SV :=
  k.litK (fun k' => n.litK (fun n' => nn k' n' (fun a c => Bool.rec (motive := fun _ => SM SV) .fail (forceN (Nat.add o (Nat.mul a es)) fun o => .ret (.ptr b o)) (Nat.ble (Nat.succ a) c))
        ((placeSl k n).bind fun k => .ret (.ptr b (o + k * es)))) ((placeSl k n).bind fun k => .ret (.ptr b (o + k * es)))) ((placeSl k n).bind fun k => .ret (.ptr b (o + k * es)))
theorem inF_eq (b o es : Nat) (k n : SI) : inF b o es k n = (placeSl k n).bind fun k => .ret (.ptr b (o + k * es)) := by
  cases k with
  | lit k =>
    cases n with
    | lit n =>
      cases k with
      | negSucc k => cases n <;> rfl
      | ofNat k =>
        cases n with
        | negSucc n => rfl
        | ofNat n =>
          show Bool.rec (motive := fun _ => SM SV) .fail (forceN (o + k * es) fun o => .ret (.ptr b o)) (Nat.ble (Nat.succ k) n) = _
          rw [boolRec_if, ble_dec, forceN_eq]
          have e1 : placeSl (.lit (Int.ofNat k)) (.lit (Int.ofNat n)) = if k < n then .ret k else .fail := by
            have h1 : litN (.lit (Int.ofNat n)) = some n := by simp [litN]
            have h2 : litN (.lit (Int.ofNat k)) = some k := by simp [litN]
            simp only [placeSl, placeN, h1, h2]
          rw [e1]
          by_cases hlt : k < n
          · rw [if_pos (decide_eq_true (show Nat.succ k ≤ n from hlt)), if_pos hlt, SM.bind_ret]
          · rw [if_neg (fun h => hlt (of_decide_eq_true (p := Nat.succ k ≤ n) h)), if_neg hlt, SM.bind_fail]
    | _ => rfl
  | _ => rfl
def iaF (es : Nat) (x i : SV) : SM SV :=
  x.slK (fun b o n es' _ => i.intK (fun _ k => Bool.rec (motive := fun _ => SM SV) .fail (inF b o es k n) (Nat.beq es' es)) .fail) .fail
theorem iaF_eq (fr : SFr) (H : SHeap) (nid es : Nat) (x i : EO) : (iaF es (evS fr x) (evS fr i)).bind (fun v => .ret (v, none)) = qs_ia fr H nid es x i := by
  unfold qs_ia
  generalize evS fr x = a
  generalize evS fr i = b
  have bb : ∀ (m : SM Nat) (f : Nat → SV), (m.bind fun k => SM.ret (f k)).bind (fun v => SM.ret (v, (none : Option SObj))) = m.bind fun k => .ret (f k, none) := by
    intro m f
    funext Th F
    rw [SM.bind_eq, SM.bind_eq, SM.bind_eq]
    cases m Th F with
    | none => rfl
    | some l =>
      have : ∀ l : List (Facts' × Nat), SM.bindC (fun v => SM.ret (v, (none : Option SObj))) Th (SM.bindC (fun k => SM.ret (f k)) Th (some l)) = SM.bindC (fun k => SM.ret (f k, (none : Option SObj))) Th (some l) := by
        intro l
        have hL : ∀ l : List (Facts' × Nat), SM.bindL (fun k => SM.ret (f k)) Th l = some (l.map fun x => (x.1, f x.2)) := by
          intro l
          induction l with
          | nil => rfl
          | cons x r ih =>
            cases r with
            | nil => rfl
            | cons y r => simp only [SM.bindL, SM.ret] at ih ⊢; rw [ih]; rfl
        have hM : ∀ l : List (Facts' × Nat), SM.bindL (fun k => SM.ret (f k, (none : Option SObj))) Th l = some (l.map fun x => (x.1, (f x.2, none))) := by
          intro l
          induction l with
          | nil => rfl
          | cons x r ih =>
            cases r with
            | nil => rfl
            | cons y r => simp only [SM.bindL, SM.ret] at ih ⊢; rw [ih]; rfl
        have hN : ∀ l : List (Facts' × SV), SM.bindL (fun v => SM.ret (v, (none : Option SObj))) Th l = some (l.map fun x => (x.1, (x.2, none))) := by
          intro l
          induction l with
          | nil => rfl
          | cons x r ih =>
            cases r with
            | nil => rfl
            | cons y r => simp only [SM.bindL, SM.ret] at ih ⊢; rw [ih]; rfl
        cases l with
        | nil => rfl
        | cons x r =>
          cases r with
          | nil => rfl
          | cons y r =>
            simp only [SM.bindC, hL, hM, List.map_cons]
            rw [hN]; simp
      exact this l
  cases a with
  | sl c o n es' f =>
    cases b with
    | int k j =>
      show SM.bind (Bool.rec (motive := fun _ => SM SV) .fail _ (Nat.beq es' es)) _ = _
      rw [boolRec_if, beq_dec]
      simp only [decide_eq_true_eq]
      by_cases he : es' = es
      · rw [if_pos he, if_pos he, inF_eq]
        exact bb (placeSl _ _) (fun k => .ptr c (o + k * es))
      · rw [if_neg he, if_neg he, SM.bind_fail]
    | _ => exact SM.bind_fail _
  | _ => exact SM.bind_fail _

theorem map_bind_ofOpt {α β γ : Type} (o : Option α) (f : α → β) (g : β → SM γ) : (SM.ofOpt (o.map f)).bind g = match o with | some a => g (f a) | none => .fail := by
  cases o with
  | none => exact SM.bind_fail _
  | some a => exact SM.bind_ret _ _
end
end Go.Ev
