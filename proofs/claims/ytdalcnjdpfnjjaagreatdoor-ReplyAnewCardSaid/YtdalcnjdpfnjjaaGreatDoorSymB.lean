/- Symbols: numbers and strings, operation by operation: what is answered stands for what the evaluator answers. -/
import Derived.Test.YtdalcnjdpfnjjaaGreatDoorSymA
set_option linter.unusedSimpArgs false
set_option linter.unusedVariables false
namespace Go.Ev
open Go

noncomputable def evS (fr : SFr) (x : EO) : SV :=
  EO.rec (motive := fun _ => SV) (fun n => Option.rec (motive := fun _ => SV) (.tup []) (fun v => v) (fr.getF n)) (fun v => ofV v) x
theorem ev_den (ρ : Val) (fr : SFr) (x : EO) : ev (denF ρ fr) x = denV ρ (evS fr x) := by
  cases x with
  | c v => simp only [ev, evS, den_ofV]
  | t n => simp only [ev, evS, denF_get, T.getF_eq]; cases fr.get n <;> rfl
theorem map_ev_den (ρ : Val) (fr : SFr) (l : List EO) : l.map (ev (denF ρ fr)) = denVs ρ (l.map (evS fr)) := by
  rw [denVs_eq, List.map_map]
  exact List.map_congr_left fun x _ => ev_den ρ fr x

/-! ### Bytes -/

def isByte : SI → Bool
  | .lit n => decide (0 ≤ n) && decide (n < 256)
  | .cv .u8 _ => true
  | .vat _ _ => true
  | .op .add .u8 _ _ | .op .sub .u8 _ _ | .op .mul .u8 _ _ | .op .and .u8 _ _ | .op .or .u8 _ _ | .op .xor .u8 _ _ | .op .shl .u8 _ _ => true
  | _ => false

theorem wrap_u8 (n : Int) : 0 ≤ IntKind.u8.wrap n ∧ IntKind.u8.wrap n < 256 := by
  have h : IntKind.u8.wrap n = n % 256 := rfl
  rw [h]; omega

theorem isByte_ok {ρ : Val} {Th : Thy} (ok : ρ.Ok Th) {a : SI} (h : isByte a = true) : 0 ≤ denI ρ a ∧ denI ρ a < 256 := by
  unfold isByte at h
  split at h
  · simp only [Bool.and_eq_true, decide_eq_true_eq] at h
    simp only [denI]; exact h
  · exact wrap_u8 _
  · rename_i i k
    simp only [denI]
    cases hk : (ρ.s i)[k]? with
    | none => simp
    | some x =>
      have := ok.byte i x (List.mem_of_getElem? hk)
      simp; omega
  · exact wrap_u8 _
  · exact wrap_u8 _
  · exact wrap_u8 _
  · exact wrap_u8 _
  · exact wrap_u8 _
  · exact wrap_u8 _
  · exact wrap_u8 _
  · simp at h

/-! ### Numbers -/

def opI (o : BinOp) (k : IntKind) : SI → SI → SI
  | .lit a, .lit b => .lit (arith o k a b)
  | a, b => .op o k a b
theorem opI_den (ρ : Val) (o : BinOp) (k : IntKind) (a b : SI) : denI ρ (opI o k a b) = arith o k (denI ρ a) (denI ρ b) := by
  unfold opI; split <;> rfl
def cvI (k : IntKind) : SI → SI
  | .lit a => .lit (k.wrap a)
  | a => .cv k a
theorem cvI_den (ρ : Val) (k : IntKind) (a : SI) : denI ρ (cvI k a) = k.wrap (denI ρ a) := by
  unfold cvI; split <;> rfl
def sumI : SI → SI → SI
  | .lit a, .lit b => .lit (a + b)
  | a, b => .sum a b
theorem sumI_den (ρ : Val) (a b : SI) : denI ρ (sumI a b) = denI ρ a + denI ρ b := by
  unfold sumI; split <;> rfl

noncomputable def retI (k : IntKind) (a : SI) : SM SV := (SM.num a).bind fun a => .ret (.int k a)

noncomputable def intOpS (op : BinOp) (k : IntKind) (x y : SI) : SM SV :=
  match op with
  | .add => retI k (opI .add k x y)
  | .sub => retI k (opI .sub k x y)
  | .mul => retI k (opI .mul k x y)
  | .quo => (SM.need (.eqI y (.lit 0)) false).bind fun _ => retI k (opI .quo k x y)
  | .rem => (SM.need (.eqI y (.lit 0)) false).bind fun _ => retI k (opI .rem k x y)
  | .and => retI k (opI .and k x y)
  | .or => retI k (opI .or k x y)
  | .xor => retI k (opI .xor k x y)
  | .andNot => retI k (opI .andNot k x y)
  | .eql => (SM.ask (.eqI x y)).bind fun b => .ret (.bool b)
  | .neq => (SM.ask (.eqI x y)).bind fun b => .ret (.bool (!b))
  | .lss => (SM.ask (.ltI x y)).bind fun b => .ret (.bool b)
  | .leq => (SM.ask (.ltI y x)).bind fun b => .ret (.bool (!b))
  | .gtr => (SM.ask (.ltI y x)).bind fun b => .ret (.bool b)
  | .geq => (SM.ask (.ltI x y)).bind fun b => .ret (.bool (!b))
  | _ => .fail

section
variable {ρ : Val} {Th : Thy}

theorem Snd.retI (ok : ρ.Ok Th) {k : IntKind} {a : SI} {P : SV → Prop} (h : ∀ x, denI ρ x = denI ρ a → P (.int k x)) : Snd ρ Th (Ev.retI k a) P :=
  (Snd.num ok a).bind fun x hx => .ret (h x hx)

theorem not_lt_dec (a b : Int) : decide (a ≤ b) = !decide (b < a) := by
  by_cases h : a ≤ b
  · have : ¬ b < a := by omega
    simp [h, this]
  · have : b < a := by omega
    simp [h, this]

theorem intOpS_ok (ok : ρ.Ok Th) (op : BinOp) (k : IntKind) (x y : SI) : Snd ρ Th (intOpS op k x y) fun v => intOp op k (denI ρ x) (denI ρ y) = some (denV ρ v) := by
  cases op with
  | add | sub | mul | and | or | xor | andNot =>
    simp only [intOpS]
    refine Snd.retI ok fun z hz => ?_
    rw [opI_den] at hz
    simp only [intOp, denV, hz, arith]
  | quo | rem =>
    simp only [intOpS]
    refine (Snd.need ok _ _).bind fun _ h => Snd.retI ok fun z hz => ?_
    rw [opI_den] at hz
    have h' : ¬ denI ρ y = 0 := of_decide_eq_false h
    simp only [intOp, denV, hz, arith, if_neg h']
  | eql =>
    simp only [intOpS]
    refine (Snd.ask ok _).bind fun b h => .ret ?_
    simp only [denA] at h
    simp only [intOp, denV, h]
  | neq =>
    simp only [intOpS]
    refine (Snd.ask ok _).bind fun b h => .ret ?_
    simp only [denA] at h
    simp only [intOp, denV, h]
  | lss =>
    simp only [intOpS]
    refine (Snd.ask ok _).bind fun b h => .ret ?_
    simp only [denA] at h
    simp only [intOp, denV, h]
  | gtr =>
    simp only [intOpS]
    refine (Snd.ask ok _).bind fun b h => .ret ?_
    simp only [denA] at h
    simp only [intOp, denV, h]
  | leq =>
    simp only [intOpS]
    refine (Snd.ask ok _).bind fun b h => .ret ?_
    simp only [denA] at h
    simp only [intOp, denV, not_lt_dec, h]
  | geq =>
    simp only [intOpS]
    refine (Snd.ask ok _).bind fun b h => .ret ?_
    simp only [denA] at h
    simp only [intOp, denV, not_lt_dec, h]
  | _ => exact Snd.fail

noncomputable def shiftOpS (op : BinOp) (k : IntKind) (x y : SI) : SM SV :=
  (SM.need (.ltI y (.lit 0)) false).bind fun _ => match op with
    | .shl => retI k (opI .shl k x y)
    | .shr => retI k (opI .shr k x y)
    | _ => .fail
theorem shiftOpS_ok (ok : ρ.Ok Th) (op : BinOp) (k : IntKind) (x y : SI) : Snd ρ Th (shiftOpS op k x y) fun v => shiftOp op k (denI ρ x) (denI ρ y) = some (denV ρ v) := by
  refine (Snd.need ok _ _).bind fun _ h => ?_
  have h' : ¬ denI ρ y < 0 := of_decide_eq_false h
  unfold shiftOp
  rw [if_neg h']
  cases op with
  | shl | shr =>
    refine Snd.retI ok fun z hz => ?_
    rw [opI_den] at hz
    simp only [denV, hz, arith]
  | _ => exact Snd.fail

noncomputable def ibinS (op : BinOp) (x y : SV) : SM SV :=
  match op, x, y with
  | .shl, .int k a, .int _ b => shiftOpS .shl k a b
  | .shr, .int k a, .int _ b => shiftOpS .shr k a b
  | op, .int k a, .int l b => if k = l then intOpS op k a b else .fail
  | _, _, _ => .fail

/-! ### Strings -/

def ubP : Pc → Nat
  | .ch _ => 1
  | .sub _ lo none => 2 ^ 50 - lo
  | .sub _ lo (some h) => min h (2 ^ 50) - lo
def ubS : SS → Nat
  | [] => 0
  | p :: r => ubP p + ubS r
theorem subL_len (l : List Nat) (lo : Nat) (hi : Option Nat) : (subL l lo hi).length = (match hi with | none => l.length | some h => min h l.length) - lo := by
  cases hi <;> simp [subL]
theorem ubS_ok (ok : ρ.Ok Th) : ∀ s : SS, (denS ρ s).length ≤ ubS s
  | [] => Nat.le_refl _
  | p :: r => by
    have ih := ubS_ok ok r
    simp only [denS, ubS, List.length_append]
    have : (denP ρ p).length ≤ ubP p := by
      cases p with
      | ch a => exact Nat.le_refl _
      | sub i lo hi =>
        have := ok.len i
        cases hi with
        | none => simp only [denP, ubP, subL_len]; omega
        | some h => simp only [denP, ubP, subL_len]; omega
    omega

/-- The length. -/
def lenSI : SS → SI
  | [] => .lit 0
  | .ch _ :: r => sumI (.lit 1) (lenSI r)
  | .sub i lo hi :: r => match r with
    | [] => .vlen i lo hi
    | _ => sumI (.vlen i lo hi) (lenSI r)
theorem lenSI_den : ∀ s : SS, denI ρ (lenSI s) = ((denS ρ s).length : Int)
  | [] => rfl
  | .ch a :: r => by
    simp only [lenSI, sumI_den, lenSI_den r, denS, denP, denI, List.length_append, List.length_singleton]; omega
  | .sub i lo hi :: r => by
    simp only [lenSI]
    split
    · simp [denS, denP, denI]
    · simp only [sumI_den, lenSI_den r, denS, denP, denI, List.length_append]; omega

/-- The same string? -/
noncomputable def eqSS : SS → SS → SM Bool
  | [], [] => .ret true
  | .ch a :: x, .ch b :: y => (SM.test (isByte a && isByte b)).bind fun _ => (SM.ask (.eqI a b)).bind fun e => if e then eqSS x y else .ret false
  | [], .ch _ :: _ => .ret false
  | .ch _ :: _, [] => .ret false
  | .sub i lo hi :: x, y => match y with
    | .sub i' lo' hi' :: y' => if Pc.beq (.sub i lo hi) (.sub i' lo' hi') then eqSS x y' else SM.ask (.eqS (.sub i lo hi :: x) (.sub i' lo' hi' :: y'))
    | y => SM.ask (.eqS (.sub i lo hi :: x) y)
  | x, y => SM.ask (.eqS x y)

theorem toNat_eq {a b : Int} (ha : 0 ≤ a) (hb : 0 ≤ b) : (a.toNat == b.toNat) = decide (a = b) := by
  by_cases h : a = b
  · simp [h]
  · have : ¬ a.toNat = b.toNat := by omega
    simp [h, this]

theorem eqSS_ok (ok : ρ.Ok Th) : ∀ x y : SS, Snd ρ Th (eqSS x y) fun b => (denS ρ x == denS ρ y) = b
  | [], [] => by simp only [eqSS]; exact .ret (by simp [denS])
  | .ch a :: x, .ch b :: y => by
    simp only [eqSS]
    refine (Snd.test _).bind fun _ h => (Snd.ask ok _).bind fun e he => ?_
    simp only [Bool.and_eq_true] at h
    have h1 := isByte_ok ok h.1
    have h2 := isByte_ok ok h.2
    simp only [denA] at he
    cases e with
    | true =>
      rw [if_pos rfl]
      refine (eqSS_ok ok x y).mono fun c hc => ?_
      have : denI ρ a = denI ρ b := by simpa using he
      simp only [denS, denP, this, List.singleton_append, List.cons_beq_cons, beq_self_eq_true, Bool.true_and, hc]
    | false =>
      rw [if_neg (by simp)]
      refine .ret ?_
      simp only [denS, denP, List.singleton_append, List.cons_beq_cons, toNat_eq h1.1 h2.1, he, Bool.false_and]
  | [], .ch b :: y => by simp only [eqSS]; exact .ret (by simp [denS, denP])
  | .ch a :: x, [] => by simp only [eqSS]; exact .ret (by simp [denS, denP])
  | .sub i lo hi :: x, y => by
    unfold eqSS
    split
    · rename_i i' lo' hi' y'
      split
      · rename_i hb
        have := Pc.beq_eq hb
        refine (eqSS_ok ok x y').mono fun c hc => ?_
        rw [this]
        simp only [denS]
        rw [← hc]
        rw [Bool.eq_iff_iff]; simp
      · exact (Snd.ask ok _).mono fun c hc => hc
    · exact (Snd.ask ok _).mono fun c hc => hc
  | [], .sub i lo hi :: y => by simp only [eqSS]; exact (Snd.ask ok _).mono fun c hc => hc
  | .ch a :: x, .sub i lo hi :: y => by simp only [eqSS]; exact (Snd.ask ok _).mono fun c hc => hc

/-- All of it plain bytes? -/
def closeS : SS → Option (List Nat)
  | [] => some []
  | .ch (.lit n) :: r => if 0 ≤ n then (closeS r).map (n.toNat :: ·) else none
  | _ => none
theorem closeS_ok : ∀ {s : SS} {l : List Nat}, closeS s = some l → denS ρ s = l
  | [], l, h => by simp [closeS] at h; subst h; rfl
  | .ch (.lit n) :: r, l, h => by
    simp only [closeS] at h
    split at h
    · cases hr : closeS r with
      | none => rw [hr] at h; simp at h
      | some l' =>
        rw [hr] at h
        simp at h; subst h
        simp [denS, denP, denI, closeS_ok hr]
    · simp at h
  | .ch (.var _) :: r, l, h => by simp [closeS] at h
  | .ch (.op ..) :: r, l, h => by simp [closeS] at h
  | .ch (.cv ..) :: r, l, h => by simp [closeS] at h
  | .ch (.vlen ..) :: r, l, h => by simp [closeS] at h
  | .ch (.vat ..) :: r, l, h => by simp [closeS] at h
  | .ch (.sum ..) :: r, l, h => by simp [closeS] at h
  | .sub .. :: r, l, h => by simp [closeS] at h

noncomputable def strOpS (op : BinOp) (x y : SS) : SM SV :=
  match op with
  | .add => (SM.test (decide (ubS x + ubS y ≤ 2 ^ 62))).bind fun _ => .ret (.str (x ++ y))
  | .eql => (eqSS x y).bind fun b => .ret (.bool b)
  | .neq => (eqSS x y).bind fun b => .ret (.bool (!b))
  | op => match closeS x, closeS y with
    | some a, some b => SM.ofOpt ((strOp op a b).map ofV)
    | _, _ => .fail
theorem denS_app : ∀ x y : SS, denS ρ (x ++ y) = denS ρ x ++ denS ρ y
  | [], y => rfl
  | p :: x, y => by simp only [List.cons_append, denS, denS_app x y, List.append_assoc]
theorem strOpS_ok (ok : ρ.Ok Th) (op : BinOp) (x y : SS) : Snd ρ Th (strOpS op x y) fun v => strOp op (denS ρ x) (denS ρ y) = some (denV ρ v) := by
  have other : Snd ρ Th (match closeS x, closeS y with
    | some a, some b => SM.ofOpt ((strOp op a b).map ofV)
    | _, _ => .fail) fun v => strOp op (denS ρ x) (denS ρ y) = some (denV ρ v) := by
    split
    · rename_i a b h1 h2
      refine Snd.ofOpt fun v hv => ?_
      rw [closeS_ok h1, closeS_ok h2]
      cases hs : strOp op a b with
      | none => rw [hs] at hv; simp at hv
      | some u => rw [hs] at hv; simp at hv; subst hv; rw [den_ofV]
    · exact Snd.fail
  cases op with
  | add =>
    simp only [strOpS]
    refine (Snd.test _).bind fun _ h => .ret ?_
    have h' : ubS x + ubS y ≤ 2 ^ 62 := of_decide_eq_true h
    have h1 := ubS_ok ok x
    have h2 := ubS_ok ok y
    simp only [strOp, denV, denS_app]
    rw [if_pos (by omega)]
  | eql =>
    simp only [strOpS]
    refine (eqSS_ok ok x y).bind fun b h => .ret ?_
    simp only [strOp, denV, h]
  | neq =>
    simp only [strOpS]
    refine (eqSS_ok ok x y).bind fun b h => .ret ?_
    simp only [strOp, denV, h]
  | _ => exact other

/-- The first n bytes; the rest behind n bytes. -/
def takeP : SS → Nat → Option SS
  | _, 0 => some []
  | [], _ => some []
  | .ch a :: r, n + 1 => (takeP r n).map (.ch a :: ·)
  | [.sub i lo hi], n => some [.sub i lo (some (match hi with | none => lo + n | some h => min h (lo + n)))]
  | _, _ => none
def dropP : SS → Nat → Option SS
  | s, 0 => some s
  | [], _ => some []
  | .ch _ :: r, n + 1 => dropP r n
  | [.sub i lo hi], n => some [.sub i (lo + n) hi]
  | _, _ => none
theorem take_drop_min (l : List Nat) (lo h n : Nat) : ((l.take h).drop lo).take n = (l.take (min h (lo + n))).drop lo := by
  rw [List.take_drop, List.take_take, Nat.min_comm (lo + n) h]
theorem takeP_ok : ∀ {s : SS} {n : Nat} {s' : SS}, takeP s n = some s' → denS ρ s' = (denS ρ s).take n
  | s, 0, s', h => by
    have : takeP s 0 = some [] := by cases s <;> simp [takeP]
    rw [this] at h; simp at h; subst h; simp [denS]
  | [], n + 1, s', h => by simp [takeP] at h; subst h; simp [denS]
  | .ch a :: r, n + 1, s', h => by
    simp only [takeP] at h
    cases hr : takeP r n with
    | none => rw [hr] at h; simp at h
    | some r' =>
      rw [hr] at h; simp at h; subst h
      simp [denS, denP, takeP_ok hr]
  | [.sub i lo hi], n + 1, s', h => by
    simp only [takeP] at h
    injection h with h; subst h
    simp only [denS, denP, List.append_nil]
    cases hi with
    | none => simp only [subL]; rw [List.take_drop]
    | some hh => simp only [subL]; rw [take_drop_min]
  | .sub i lo hi :: p :: r, n + 1, s', h => by simp [takeP] at h
theorem dropP_ok : ∀ {s : SS} {n : Nat} {s' : SS}, dropP s n = some s' → denS ρ s' = (denS ρ s).drop n
  | s, 0, s', h => by
    have : dropP s 0 = some s := by cases s <;> simp [dropP]
    rw [this] at h; simp at h; subst h; simp
  | [], n + 1, s', h => by simp [dropP] at h; subst h; simp [denS]
  | .ch a :: r, n + 1, s', h => by
    simp only [dropP] at h
    simp [denS, denP, dropP_ok h]
  | [.sub i lo hi], n + 1, s', h => by
    simp only [dropP] at h
    injection h with h; subst h
    simp only [denS, denP, List.append_nil]
    cases hi with
    | none => simp only [subL]; rw [List.drop_drop]
    | some hh => simp only [subL]; rw [List.drop_drop]
  | .sub i lo hi :: p :: r, n + 1, s', h => by simp [dropP] at h

/-- Where a cut ends: all of it, or a number of bytes. -/
noncomputable def cutHi (s : SS) (hi : Option SV) : SM (SI × SS) :=
  match hi with
  | none => .ret (lenSI s, s)
  | some (.int _ (.lit n)) =>
    (SM.test (decide (0 ≤ n))).bind fun _ => (SM.need (.ltI (lenSI s) (.lit n)) false).bind fun _ => match takeP s n.toNat with
      | some s' => .ret (.lit n, s')
      | none => .fail
  | some (.int _ a) => if SI.beq a (lenSI s) then .ret (a, s) else .fail
  | _ => .fail
theorem cutHi_ok (ok : ρ.Ok Th) (s : SS) (hi : Option SV) : Snd ρ Th (cutHi s hi) fun r =>
    ∃ h : Nat, bound (hi.map (denV ρ)) (denS ρ s).length (denS ρ s).length = some h ∧ denI ρ r.1 = (h : Int) ∧ denS ρ r.2 = (denS ρ s).take h ∧ h ≤ (denS ρ s).length := by
  unfold cutHi
  split
  · refine .ret ⟨_, ?_, lenSI_den s, ?_, Nat.le_refl _⟩
    · simp [bound]
    · simp
  · rename_i k n
    refine (Snd.test _).bind fun _ h0 => (Snd.need ok _ _).bind fun _ h1 => ?_
    have h0' : 0 ≤ n := of_decide_eq_true h0
    simp only [denA, lenSI_den, denI, decide_eq_false_iff_not] at h1
    split
    · rename_i s' hs
      refine .ret ⟨n.toNat, ?_, ?_, takeP_ok hs, by omega⟩
      · simp only [Option.map_some, denV, denI, bound]
        rw [if_pos (by omega)]
      · simp only [denI]; omega
    · exact Snd.fail
  · rename_i k a _
    split
    · rename_i hb
      have ha := SI.beq_eq hb
      refine .ret ⟨(denS ρ s).length, ?_, ?_, ?_, Nat.le_refl _⟩
      · simp only [Option.map_some, denV, bound, ha, lenSI_den]
        rw [if_pos (by omega)]; simp
      · rw [ha, lenSI_den]
      · simp
    · exact Snd.fail
  · exact Snd.fail

noncomputable def cutLo (h : SI) (s : SS) (lo : Option SV) : SM SS :=
  match lo with
  | none => .ret s
  | some (.int _ (.lit n)) =>
    (SM.test (decide (0 ≤ n))).bind fun _ => (SM.need (.ltI h (.lit n)) false).bind fun _ => match dropP s n.toNat with
      | some s' => .ret s'
      | none => .fail
  | _ => .fail
theorem cutLo_ok (ok : ρ.Ok Th) {h : SI} {hn : Nat} (hh : denI ρ h = (hn : Int)) (s : SS) (lo : Option SV) : Snd ρ Th (cutLo h s lo) fun r =>
    ∃ l : Nat, bound (lo.map (denV ρ)) 0 hn = some l ∧ denS ρ r = (denS ρ s).drop l := by
  unfold cutLo
  split
  · exact .ret ⟨0, by simp [bound], by simp⟩
  · rename_i k n
    refine (Snd.test _).bind fun _ h0 => (Snd.need ok _ _).bind fun _ h1 => ?_
    have h0' : 0 ≤ n := of_decide_eq_true h0
    simp only [denA, hh, denI, decide_eq_false_iff_not] at h1
    split
    · rename_i s' hs
      refine .ret ⟨n.toNat, ?_, dropP_ok hs⟩
      simp only [Option.map_some, denV, denI, bound]
      rw [if_pos (by omega)]
    · exact Snd.fail
  · exact Snd.fail

/-- Byte k. -/
noncomputable def pcAt : SS → Nat → SM SI
  | .ch a :: _, 0 => (SM.test (isByte a)).bind fun _ => .ret a
  | .ch _ :: r, k + 1 => pcAt r k
  | .sub i lo hi :: _, k => (SM.need (.ltI (.lit (k : Int)) (.vlen i lo hi)) true).bind fun _ => .ret (.vat i (lo + k))
  | [], _ => .fail
theorem pcAt_ok (ok : ρ.Ok Th) : ∀ (s : SS) (k : Nat), Snd ρ Th (pcAt s k) fun a => ∃ b : Nat, (denS ρ s)[k]? = some b ∧ denI ρ a = (b : Int)
  | [], k => by simp only [pcAt]; exact Snd.fail
  | .ch a :: r, 0 => by
    simp only [pcAt]
    refine (Snd.test _).bind fun _ h => .ret ⟨(denI ρ a).toNat, ?_, ?_⟩
    · simp [denS, denP]
    · have := isByte_ok ok h; omega
  | .ch a :: r, k + 1 => by
    simp only [pcAt]
    refine (pcAt_ok ok r k).mono fun x ⟨b, h1, h2⟩ => ⟨b, ?_, h2⟩
    simpa [denS, denP] using h1
  | .sub i lo hi :: r, k => by
    have hdef : pcAt (.sub i lo hi :: r) k = ((SM.need (.ltI (.lit (k : Int)) (.vlen i lo hi)) true).bind fun _ => .ret (.vat i (lo + k))) := by cases k <;> rfl
    rw [hdef]
    refine (Snd.need ok _ _).bind fun _ h => .ret ?_
    have h0 : (k : Int) < ((subL (ρ.s i) lo hi).length : Int) := of_decide_eq_true h
    have hk : k < (subL (ρ.s i) lo hi).length := by omega
    have hget : (subL (ρ.s i) lo hi)[k]? = (ρ.s i)[lo + k]? := by
      cases hi with
      | none => simp [subL]
      | some hh =>
        simp only [subL, List.getElem?_drop, List.getElem?_take]
        rw [subL_len] at hk
        rw [if_pos (by simp only at hk; omega)]
    cases hx : (ρ.s i)[lo + k]? with
    | none =>
      rw [hx] at hget
      rw [List.getElem?_eq_getElem hk] at hget
      simp at hget
    | some b =>
      refine ⟨b, ?_, ?_⟩
      · simp only [denS, denP]
        rw [List.getElem?_append_left hk, hget, hx]
      · simp only [denI, hx]; rfl

/-- The bytes one by one, as cells; cells as bytes. -/
def toCells : SS → Option (List SV)
  | [] => some []
  | .ch a :: r => if isByte a then (toCells r).map (.int .u8 a :: ·) else none
  | _ => none
theorem toCells_ok (ok : ρ.Ok Th) : ∀ {s : SS} {l : List SV}, toCells s = some l → denVs ρ l = (denS ρ s).map fun (b : Nat) => V.int .u8 (b : Int)
  | [], l, h => by simp [toCells] at h; subst h; rfl
  | .ch a :: r, l, h => by
    simp only [toCells] at h
    split at h
    · rename_i hb
      cases hr : toCells r with
      | none => rw [hr] at h; simp at h
      | some l' =>
        rw [hr] at h; simp at h; subst h
        have := isByte_ok ok hb
        simp only [denVs, denV, denS, denP, List.singleton_append, List.map_cons, toCells_ok ok hr]
        congr 2
        omega
    · simp at h
  | .sub .. :: r, l, h => by simp [toCells] at h
def bytesS : List SV → Option SS
  | [] => some []
  | .int .u8 a :: r => if isByte a then (bytesS r).map (.ch a :: ·) else none
  | _ => none
theorem bytesS_ok (ok : ρ.Ok Th) : ∀ {l : List SV} {s : SS}, bytesS l = some s → bytesOf (denVs ρ l) = some (denS ρ s)
  | [], s, h => by simp [bytesS] at h; subst h; rfl
  | v :: r, s, h => by
    unfold bytesS at h
    split at h
    · rename_i heq; simp at heq
    · rename_i a r' heq
      injection heq with e1 e2
      subst e1; subst e2
      split at h
      · rename_i hb
        cases hr : bytesS r with
        | none => rw [hr] at h; simp at h
        | some l' =>
          rw [hr] at h; simp at h; subst h
          have := isByte_ok ok hb
          simp only [denVs, denV, bytesOf, bytesS_ok ok hr, denS, denP, List.singleton_append]
          rw [if_pos (by omega)]; rfl
      · simp at h
    · simp at h

end
end Go.Ev
