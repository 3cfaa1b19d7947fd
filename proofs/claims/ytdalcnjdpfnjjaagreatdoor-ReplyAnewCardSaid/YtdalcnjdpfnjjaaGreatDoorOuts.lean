/- What a run with symbols gives, outcome by outcome, as facts of the evaluator's run. No program in sight. -/
import Derived.Test.YtdalcnjdpfnjjaaGreatDoorFasE
import Derived.Test.YtdalcnjdpfnjjaaGreatDoorMono
set_option linter.unusedSimpArgs false
set_option linter.unusedVariables false
namespace Go.Ev
open Go

/-- The facts, one by one. -/
def satC (ρ : Val) : Facts' → Prop
  | [] => True
  | (a, b) :: r => denA ρ a = b ∧ satC ρ r
theorem satC_of {ρ : Val} : ∀ {F : Facts'}, Sat ρ F → satC ρ F
  | [], _ => trivial
  | (a, b) :: r, h => ⟨h (a, b) (by simp), satC_of fun x hx => h x (by simp [hx])⟩
theorem Sat_of {ρ : Val} : ∀ {F : Facts'}, satC ρ F → Sat ρ F
  | [], _ => fun x hx => by simp at hx
  | (a, b) :: r, h => fun x hx => by
    rcases List.mem_cons.1 hx with rfl | hx
    · exact h.1
    · exact Sat_of h.2 x hx
theorem Sat.nil (ρ : Val) : Sat ρ [] := fun x hx => by simp at hx

/-- Outcomes without their heaps. -/
noncomputable def outs (l : Option (List (Facts' × (SV × SHeap)))) : Option (List (Facts' × SV)) := l.map fun l => l.map fun x => (x.1, x.2.1)

section
variable {ρ : Val} {Th : Thy} {S : SEnv} {E : Env}
/-- One of the outcomes is it. -/
def AnyOf (ρ : Val) (Q : SV → Prop) : List (Facts' × SV) → Prop
  | [] => False
  | (F, v) :: r => (satC ρ F ∧ Q v) ∨ AnyOf ρ Q r
theorem anyOf_mem {Q : SV → Prop} : ∀ {l : List (Facts' × SV)} {x : Facts' × SV}, x ∈ l → Sat ρ x.1 → Q x.2 → AnyOf ρ Q l
  | y :: r, x, h, hs, hq => by
    rcases List.mem_cons.1 h with rfl | h
    · exact .inl ⟨satC_of hs, hq⟩
    · exact .inr (anyOf_mem h hs hq)
theorem call_outs (ok : ρ.Ok Th) (se : S.Ok ρ Th E) {n : Nat} {f : FuncId} {args : List SV} {H : SHeap} {F : Facts'} {L : List (Facts' × SV)} (hs : Sat ρ F) (h : outs (callQ S n f args H Th F) = some L) :
    AnyOf ρ (fun v => ∃ H', call E n f (denVs ρ args) (denH ρ H) = some (denV ρ v, H')) L := by
  unfold outs at h
  rw [callQ_eq] at h
  obtain ⟨l, hl, h2⟩ := Option.map_eq_some_iff.1 h
  subst h2
  obtain ⟨x, hx, hs', hr⟩ := callS_ok ok se n f args H F l hl hs
  exact anyOf_mem (x := (x.1, x.2.1)) (List.mem_map.2 ⟨x, hx, rfl⟩) hs' ⟨_, hr⟩
/-- A call of a function of plain data. -/
theorem pcall_of_call {n : Nat} {f : FuncId} {args : List V} {v : V} {H' : Heap} (hk : E.known f = none) (hg : V.grounds args = true) (hv : v.ground = true) (h : call E n f args E.glob = some (v, H')) : pcall E n f args = some v := by
  unfold pcall pureA
  rw [hk]
  simp only [hg, if_true]
  unfold call at h
  rw [h]
  simp only [hv, if_true]
theorem pcall_outs (ok : ρ.Ok Th) (se : S.Ok ρ Th E) {n : Nat} {f : FuncId} {args : List SV} {F : Facts'} {L : List (Facts' × SV)} (hk : E.known f = none) (hg : SV.grounds args = true) (hs : Sat ρ F)
    (hall : (L.all fun x => x.2.ground) = true) (h : outs (callQ S n f args S.glob Th F) = some L) :
    AnyOf ρ (fun v => pcall E n f (denVs ρ args) = some (denV ρ v)) L := by
  unfold outs at h
  rw [callQ_eq] at h
  obtain ⟨l, hl, h2⟩ := Option.map_eq_some_iff.1 h
  subst h2
  obtain ⟨x, hx, hs', hr⟩ := callS_ok ok se n f args S.glob F l hl hs
  rw [se.glob] at hr
  have hm : (x.1, x.2.1) ∈ l.map fun x => (x.1, x.2.1) := List.mem_map.2 ⟨x, hx, rfl⟩
  refine anyOf_mem (x := (x.1, x.2.1)) hm hs' (pcall_of_call hk (by rw [grounds_den]; exact hg) (by rw [ground_den]; exact List.all_eq_true.1 hall _ hm) hr)
end

section
variable (ρ : Val)
theorem lt_t (a b : SI) : (denA ρ (.ltI a b) = true) = (denI ρ a < denI ρ b) := by simp [denA]
theorem lt_f (a b : SI) : (denA ρ (.ltI a b) = false) = (denI ρ b ≤ denI ρ a) := by simp [denA]
theorem eq_t (a b : SI) : (denA ρ (.eqI a b) = true) = (denI ρ a = denI ρ b) := by simp [denA]
theorem eq_f (a b : SI) : (denA ρ (.eqI a b) = false) = ¬ (denI ρ a = denI ρ b) := by simp [denA]
theorem eqs_t (a b : SS) : (denA ρ (.eqS a b) = true) = (denS ρ a = denS ρ b) := by simp [denA]
theorem eqs_f (a b : SS) : (denA ρ (.eqS a b) = false) = ¬ (denS ρ a = denS ρ b) := by simp [denA]
theorem bv_t (i : Nat) : (denA ρ (.bv i) = true) = (ρ.b i = true) := rfl
theorem bv_f (i : Nat) : (denA ρ (.bv i) = false) = (ρ.b i = false) := rfl
theorem pr_t (p : Nat) (s : SS) : (denA ρ (.pr p s) = true) = (ρ.p p (denS ρ s) = true) := rfl
theorem pr_f (p : Nat) (s : SS) : (denA ρ (.pr p s) = false) = (ρ.p p (denS ρ s) = false) := rfl
end

/-- Numbers that fit are what they are. -/
theorem wrap_i64 {z : Int} (h1 : -(2 ^ 63) ≤ z) (h2 : z < 2 ^ 63) : IntKind.i64.wrap z = z := by
  simp only [IntKind.wrap, IntKind.bits, IntKind.signed]; simp; omega
theorem wrap_u32 {z : Int} (h1 : 0 ≤ z) (h2 : z < 2 ^ 32) : IntKind.u32.wrap z = z := by
  simp only [IntKind.wrap, IntKind.bits, IntKind.signed]; simp; omega
theorem wrap_i32 {z : Int} (h1 : -(2 ^ 31) ≤ z) (h2 : z < 2 ^ 31) : IntKind.i32.wrap z = z := by
  simp only [IntKind.wrap, IntKind.bits, IntKind.signed]; simp; omega
theorem wrap_u8' {z : Int} (h1 : 0 ≤ z) (h2 : z < 2 ^ 8) : IntKind.u8.wrap z = z := by
  simp only [IntKind.wrap, IntKind.bits, IntKind.signed]; simp; omega

/-- Symbols that stand for a few things. -/
def val1 (i : Nat → Int) (s : Nat → List Nat) : Val := { i := i, s := s, b := fun _ => false, p := fun _ _ => false }
end Go.Ev
