/- The evaluator's setting for this program: its functions, its package variables; it is tied to the program. -/
import Derived.Test.YtdalcnjdpfnjjaaGreatDoorEvV
import Derived.Test.YtdalcnjdpfnjjaaGreatDoorCoT
namespace Go.Proofs.YtdalcnjdpfnjjaaGreatDoor
open Go Go.Ev
def u8s (l : List Nat) : List V := l.map fun (n : Nat) => V.int .u8 (n : Int)
def tab0 : List V := u8s [0,1,28,2,29,14,24,3,30,22,20,15,25,17,4,8,31,27,13,23,21,19,16,7,26,12,18,6,11,5,10,9]
def tab1 : List V := u8s (List.replicate 128 0xf0 ++ List.replicate 66 0xf1 ++ List.replicate 30 2 ++ [0x13] ++ List.replicate 12 3 ++ [0x23] ++ [3,3] ++ [0x34,4,4,4,0x44] ++ List.replicate 11 0xf1)
def tab2 : List V := u8s [128,191,160,191,128,159,144,191,128,143,0,0,0,0,0,0,0,0,0,0,0,0,0,0,0,0,0,0,0,0,0,0]
def glob : Heap := { next := 3, t := ((T.nil.set (Go.Ev.Obj.cells true tab0) 0).set (Go.Ev.Obj.cells true tab1) 1).set (Go.Ev.Obj.cells true tab2) 2 }
noncomputable def E : Env := { fn := Co.tree.get, known := fun _ => none, glob := glob }
theorem glob_get (i : Nat) : glob.get i = if i = 2 then .cells true tab2 else if i = 1 then .cells true tab1 else if i = 0 then .cells true tab0 else .dead := by
  simp only [glob, Heap.get, T.get_set, T.get_nil]
  by_cases h2 : i = 2
  · subst h2; rfl
  · have : ¬ 2 = i := fun h => h2 h.symm
    rw [if_neg this, if_neg h2]
    by_cases h1 : i = 1
    · subst h1; rfl
    · have : ¬ 1 = i := fun h => h1 h.symm
      rw [if_neg this, if_neg h1]
      by_cases h0 : i = 0
      · subst h0; rfl
      · have : ¬ 0 = i := fun h => h0 h.symm
        rw [if_neg this, if_neg h0]; rfl
set_option maxRecDepth 100000 in
theorem tieE : Tie Tryz.prog Co.pureF E where
  fn := fun f ef h => Co.BT.Ties.get Co.tree_tied f ef h
  next := by show 3 = _; exact (by kernel_rfl : Tryz.prog.globals.size = 3).symm
  dead := fun i hi => by
    have hi' : 3 ≤ i := hi
    show glob.get i = .dead
    rw [glob_get, if_neg (by omega), if_neg (by omega), if_neg (by omega)]
  ro := fun i hi => by
    have hi' : i < 3 := hi
    show ∃ cs, glob.get i = _ ∧ _
    rw [glob_get]
    by_cases h2 : i = 2
    · rw [if_pos h2]; exact ⟨_, rfl, by kernel_rfl⟩
    · rw [if_neg h2]
      by_cases h1 : i = 1
      · rw [if_pos h1]; exact ⟨_, rfl, by kernel_rfl⟩
      · rw [if_neg h1, if_pos (by omega)]; exact ⟨_, rfl, by kernel_rfl⟩
  known := fun f g h => by simp [E] at h
  mixed := by kernel_rfl
end Go.Proofs.YtdalcnjdpfnjjaaGreatDoor
