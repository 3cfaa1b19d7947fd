/- Functions that are known: lists of them, for the evaluator and for the runs with symbols. No program in sight. -/
import Derived.Test.YtdalcnjdpfnjjaaGreatDoorOuts
set_option linter.unusedSimpArgs false
set_option linter.unusedVariables false
namespace Go.Ev
open Go

def assoc {β : Type} : List (Nat × β) → Nat → Option β
  | [], _ => none
  | (k, b) :: r, f => bif Nat.beq f k then some b else assoc r f
/-- Each listed function answers as the program's does. -/
def KnTie (P : Program) (G : Heap) (l : List (Nat × (List V → Option V))) : Prop := ∀ x ∈ l, ∀ args v, x.2 args = some v → PureOk P G x.1 args v
theorem assoc_mem {β : Type} : ∀ {l : List (Nat × β)} {f : Nat} {b : β}, assoc l f = some b → (f, b) ∈ l
  | (k, c) :: r, f, b, h => by
    unfold assoc at h
    cases hb : Nat.beq f k with
    | true =>
      rw [hb] at h
      simp at h; subst h
      rw [Nat.eq_of_beq_eq_true hb]; simp
    | false =>
      rw [hb] at h
      simp only [cond_false] at h
      exact List.mem_cons_of_mem _ (assoc_mem h)
theorem KnTie.tie {P : Program} {pf : FuncId → Bool} {E : Env} (t : Tie P pf E) {l : List (Nat × (List V → Option V))} (h : KnTie P E.glob l) : Tie P pf { fn := E.fn, known := assoc l, glob := E.glob } where
  fn := t.fn
  next := t.next
  dead := t.dead
  ro := t.ro
  known := fun f g hg args v hv => h (f, g) (assoc_mem hg) args v hv
  mixed := t.mixed
theorem KnTie.nil {P : Program} {G : Heap} : KnTie P G [] := fun x h => by simp at h
theorem KnTie.cons {P : Program} {G : Heap} {f : Nat} {g : List V → Option V} {l : List (Nat × (List V → Option V))} (h : ∀ args v, g args = some v → PureOk P G f args v) (r : KnTie P G l) : KnTie P G ((f, g) :: l) := fun x hx => by
  rcases List.mem_cons.1 hx with rfl | hx
  · exact h
  · exact r x hx

/-- The symbols' list stands for the evaluator's. -/
inductive KnSym (ρ : Val) (Th : Thy) : List (Nat × (List SV → SM SV)) → List (Nat × (List V → Option V)) → Prop
  | nil : KnSym ρ Th [] []
  | cons {f : Nat} {h : List SV → SM SV} {g : List V → Option V} {sl : List (Nat × (List SV → SM SV))} {el : List (Nat × (List V → Option V))} :
      (∀ args, Snd ρ Th (h args) fun v => g (denVs ρ args) = some (denV ρ v)) → KnSym ρ Th sl el → KnSym ρ Th ((f, h) :: sl) ((f, g) :: el)
theorem KnSym.none {ρ : Val} {Th : Thy} {sl : List (Nat × (List SV → SM SV))} {el : List (Nat × (List V → Option V))} (k : KnSym ρ Th sl el) (f : Nat) (h : assoc sl f = none) : assoc el f = none := by
  induction k with
  | nil => rfl
  | @cons f' h' g sl el _ _ ih =>
    unfold assoc at h ⊢
    cases hb : Nat.beq f f' with
    | true => rw [hb] at h; simp at h
    | false => rw [hb] at h; exact ih h
theorem KnSym.some {ρ : Val} {Th : Thy} {sl : List (Nat × (List SV → SM SV))} {el : List (Nat × (List V → Option V))} (k : KnSym ρ Th sl el) (f : Nat) (h : List SV → SM SV) (hh : assoc sl f = some h) :
    ∃ g, assoc el f = some g ∧ ∀ args, Snd ρ Th (h args) fun v => g (denVs ρ args) = some (denV ρ v) := by
  induction k with
  | nil => simp [assoc] at hh
  | @cons f' h' g sl el hs _ ih =>
    unfold assoc at hh ⊢
    cases hb : Nat.beq f f' with
    | true => rw [hb] at hh; simp at hh; subst hh; exact ⟨g, rfl, hs⟩
    | false => rw [hb] at hh; exact ih hh
theorem KnSym.ok {ρ : Val} {Th : Thy} {S : SEnv} {E : Env} (so : S.Ok ρ Th E) {sl : List (Nat × (List SV → SM SV))} {el : List (Nat × (List V → Option V))} (k : KnSym ρ Th sl el) :
    SEnv.Ok ρ Th { fn := S.fn, known := assoc sl, glob := S.glob } { fn := E.fn, known := assoc el, glob := E.glob } where
  fn := so.fn
  glob := so.glob
  none := k.none
  some := k.some

/-! ### Kinds of known functions -/

/-- A call without arguments that is true. -/
def kTrue (args : List V) : Option V := match args with | [] => some (.bool true) | _ => none
def kTrueS (args : List SV) : SM SV := match args with | [] => .ret (.bool true) | _ => .fail
theorem kTrue_ok {ρ : Val} {Th : Thy} (args : List SV) : Snd ρ Th (kTrueS args) fun v => kTrue (denVs ρ args) = some (denV ρ v) := by
  cases args with
  | nil => exact Snd.ret rfl
  | cons a r => exact Snd.fail

/-- All bytes, of a size that fits. -/
def bytesOk (s : SS) : Bool := (s.all fun p => match p with | .ch a => isByte a | .sub _ _ _ => true) && decide (ubS s ≤ 2 ^ 50)
theorem bytesOk_den {ρ : Val} {Th : Thy} (ok : ρ.Ok Th) {s : SS} (h : bytesOk s = true) : (denS ρ s).length ≤ 2 ^ 50 ∧ ∀ x ∈ denS ρ s, x < 256 := by
  unfold bytesOk at h
  simp only [Bool.and_eq_true, decide_eq_true_eq] at h
  refine ⟨Nat.le_trans (ubS_ok ok s) h.2, ?_⟩
  have h1 := h.1
  clear h
  induction s with
  | nil => intro x hx; simp [denS] at hx
  | cons p r ih =>
    simp only [List.all_cons, Bool.and_eq_true] at h1
    intro x hx
    simp only [denS, List.mem_append] at hx
    rcases hx with hx | hx
    · cases p with
      | ch a =>
        simp only [denP, List.mem_singleton] at hx
        have := isByte_ok ok h1.1
        omega
      | sub i lo hi =>
        refine ok.byte i x ?_
        simp only [denP] at hx
        cases hi with
        | none => exact List.mem_of_mem_drop hx
        | some h => exact List.mem_of_mem_take (List.mem_of_mem_drop hx)
    · exact ih h1.2 x hx
/-- A test of a string of bytes. -/
def kStr (P : List Nat → Bool) (args : List V) : Option V := match args with
  | [.str s] => if s.length ≤ 2 ^ 50 ∧ (∀ x ∈ s, x < 256) then some (.bool (P s)) else none
  | _ => none
noncomputable def kStrS (k : Nat) (args : List SV) : SM SV := match args with
  | [.str s] => (SM.test (bytesOk s)).bind fun _ => (SM.ask (.pr k s)).bind fun b => .ret (.bool b)
  | _ => .fail
theorem kStr_ok {ρ : Val} {Th : Thy} (ok : ρ.Ok Th) {P : List Nat → Bool} {k : Nat} (hp : ρ.p k = P) (args : List SV) : Snd ρ Th (kStrS k args) fun v => kStr P (denVs ρ args) = some (denV ρ v) := by
  unfold kStrS
  split
  · rename_i s
    refine (Snd.test _).bind fun _ h => (Snd.ask ok _).bind fun b hb => .ret ?_
    have := bytesOk_den ok h
    simp only [denA, hp] at hb
    simp only [denVs, denV, kStr]
    rw [if_pos this, hb]
  · exact Snd.fail

/-- May a number be a device's? -/
def namedB (x : Int) : Bool := !(decide (x = 0)) && !(decide (x = 4294967295))
def kNamed (args : List V) : Option V := match args with
  | [.int .u32 x] => some (.bool (namedB x))
  | _ => none
/-- One question: 0 and the last one become the two greatest. -/
noncomputable def kNamedS (args : List SV) : SM SV := match args with
  | [.int .u32 x] => (SM.need (.ltI x (.lit 0)) false).bind fun _ => (SM.need (.ltI (.lit 4294967295) x) false).bind fun _ => (SM.ask (.ltI (opI .sub .u32 x (.lit 1)) (.lit 4294967294))).bind fun b => .ret (.bool b)
  | _ => .fail
theorem namedB_sub {x : Int} (h0 : 0 ≤ x) (h1 : x ≤ 4294967295) : decide (IntKind.u32.wrap (x - 1) < 4294967294) = namedB x := by
  unfold namedB
  by_cases hz : x = 0
  · subst hz; decide
  · rw [wrap_u32 (by omega) (by omega)]
    by_cases hm : x = 4294967295
    · subst hm; decide
    · simp [hz, hm]; omega
theorem kNamed_ok {ρ : Val} {Th : Thy} (ok : ρ.Ok Th) (args : List SV) : Snd ρ Th (kNamedS args) fun v => kNamed (denVs ρ args) = some (denV ρ v) := by
  unfold kNamedS
  split
  · rename_i x
    refine (Snd.need ok _ _).bind fun _ h1 => (Snd.need ok _ _).bind fun _ h2 => (Snd.ask ok _).bind fun b hb => .ret ?_
    rw [lt_f] at h1 h2
    simp only [denI] at h1 h2
    simp only [denA, opI_den, arith, denI] at hb
    rw [namedB_sub (by omega) (by omega)] at hb
    simp only [denVs, denV, kNamed, hb]
  · exact Snd.fail

/-! ### Who is there -/
def mayX (P : List Nat → Bool) (f sl ss : Int) (nk : List Nat) : Bool := namedB f && (decide (ss = 1) || decide (ss = 6) || decide (ss = 8)) && decide (-1 ≤ sl) && decide (sl < ss) && P nk
/-- The same of a list: the number, the slot and the slots (each from the least number on), the name. -/
def mayXl (P : List Nat → Bool) : List Nat → Bool
  | f :: a :: b :: nk => mayX P (f : Int) ((a : Int) - 2 ^ 63) ((b : Int) - 2 ^ 63) nk
  | _ => false
def kXid (P : List Nat → Bool) (args : List V) : Option V := match args with
  | [.agg [.int .u32 f, .int .u32 _, .int .i64 sl, .int .i64 ss, .bool _, .str nk]] => if nk.length ≤ 2 ^ 50 ∧ (∀ x ∈ nk, x < 256) then some (.bool (mayX P f sl ss nk)) else none
  | _ => none
noncomputable def kXidS (k : Nat) (args : List SV) : SM SV := match args with
  | [.agg [.int .u32 f, .int .u32 _, .int .i64 sl, .int .i64 ss, .bool _, .str nk]] =>
    (SM.test (bytesOk nk)).bind fun _ => (SM.need (.ltI f (.lit 0)) false).bind fun _ => (SM.need (.ltI sl (.lit (-9223372036854775808))) false).bind fun _ => (SM.need (.ltI ss (.lit (-9223372036854775808))) false).bind fun _ =>
      (SM.ask (.pr k (.ch f :: .ch (sumI sl (.lit 9223372036854775808)) :: .ch (sumI ss (.lit 9223372036854775808)) :: nk))).bind fun b => .ret (.bool b)
  | _ => .fail
theorem kXid_ok {ρ : Val} {Th : Thy} (ok : ρ.Ok Th) {P : List Nat → Bool} {k : Nat} (hp : ρ.p k = mayXl P) (args : List SV) : Snd ρ Th (kXidS k args) fun v => kXid P (denVs ρ args) = some (denV ρ v) := by
  unfold kXidS
  split
  · rename_i f t sl ss an nk
    refine (Snd.test _).bind fun _ h => (Snd.need ok _ _).bind fun _ h1 => (Snd.need ok _ _).bind fun _ h2 => (Snd.need ok _ _).bind fun _ h3 => (Snd.ask ok _).bind fun b hb => .ret ?_
    have hk := bytesOk_den ok h
    rw [lt_f] at h1 h2 h3
    simp only [denI] at h1 h2 h3
    simp only [denA, hp, denS, denP, sumI_den, denI, List.singleton_append, mayXl] at hb
    rw [Int.toNat_of_nonneg h1, Int.toNat_of_nonneg (by omega), Int.toNat_of_nonneg (by omega)] at hb
    rw [show denI ρ sl + 9223372036854775808 - 2 ^ 63 = denI ρ sl by omega, show denI ρ ss + 9223372036854775808 - 2 ^ 63 = denI ρ ss by omega] at hb
    simp only [denVs, denV, kXid]
    rw [if_pos hk, hb]
  · exact Snd.fail
end Go.Ev
