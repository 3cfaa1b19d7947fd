/- The setting of the runs with symbols. -/
import Derived.Test.YtdalcnjdpfnjjaaGreatDoorEnv
import Derived.Test.YtdalcnjdpfnjjaaGreatDoorBegun
import Derived.Test.YtdalcnjdpfnjjaaGreatDoorSymE
namespace Go.Proofs.YtdalcnjdpfnjjaaGreatDoor
open Go Go.Ev
def sglob : SHeap := { next := 3, t := ((T.nil.set (SObj.cells true (ofVs tab0)) 0).set (SObj.cells true (ofVs tab1)) 1).set (SObj.cells true (ofVs tab2)) 2 }
theorem sglob_den (ρ : Val) : denH ρ sglob = glob := by
  have h : ∀ (o : Go.Ev.SObj) (t : T SObj) (n : Nat), T.map (denO ρ) (t.set o n) = (T.map (denO ρ) t).set (denO ρ o) n := fun o t n => T.set_map _ _ _ _
  simp only [denH, sglob, glob, h, denO, den_ofVs]
  rfl
/-- What is known: the closed call with which each law begins. -/
def known1 (f : FuncId) : Option (List V → Option V) := bif Nat.beq f 8 then some (fun args => match args with | [] => some (.bool true) | _ => none) else none
def sknown1 (f : FuncId) : Option (List SV → SM SV) := bif Nat.beq f 8 then some (fun args => match args with | [] => .ret (.bool true) | _ => .fail) else none
noncomputable def E1 : Env := { fn := Co.tree.get, known := known1, glob := glob }
noncomputable def S1 : SEnv := { fn := Co.tree.get, known := sknown1, glob := sglob }
theorem tieE1 : Tie Tryz.prog Co.pureF E1 where
  fn := tieE.fn
  next := tieE.next
  dead := tieE.dead
  ro := tieE.ro
  known := fun f g h => by
    have h' : known1 f = some g := h
    unfold known1 at h'
    cases hb : Nat.beq f 8 with
    | false => rw [hb] at h'; simp at h'
    | true =>
      rw [hb] at h'
      simp at h'
      subst h'
      have := Nat.eq_of_beq_eq_true hb
      subst this
      intro args v hv
      cases args with
      | nil =>
        simp at hv; subst hv
        exact pcall_good tieE 100000 8 [] _ begun_true
      | cons a r => simp at hv
  mixed := tieE.mixed
theorem seOk1 (ρ : Val) (Th : Thy) : S1.Ok ρ Th E1 where
  fn := fun f => rfl
  glob := sglob_den ρ
  none := fun f h => by
    have h' : sknown1 f = none := h
    show known1 f = none
    unfold sknown1 at h'
    unfold known1
    cases hb : Nat.beq f 8 with
    | false => rfl
    | true => rw [hb] at h'; simp at h'
  some := fun f h hh => by
    have h' : sknown1 f = some h := hh
    unfold sknown1 at h'
    cases hb : Nat.beq f 8 with
    | false => rw [hb] at h'; simp at h'
    | true =>
      rw [hb] at h'
      simp at h'
      subst h'
      refine ⟨_, (show known1 f = some _ by unfold known1; rw [hb]; rfl), fun args => ?_⟩
      cases args with
      | nil => exact Snd.ret rfl
      | cons a r => exact Snd.fail
end Go.Proofs.YtdalcnjdpfnjjaaGreatDoor
