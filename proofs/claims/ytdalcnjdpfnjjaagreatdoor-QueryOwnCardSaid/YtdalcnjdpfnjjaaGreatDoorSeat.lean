/- This seat's rows: the package variables at the call's beginning; a law's row from the evaluator's runs. -/
import Derived.Test.YtdalcnjdpfnjjaaGreatDoorEnv
import Derived.Test.YtdalcnjdpfnjjaaGreatDoorRowA
import Derived.Test.YtdalcnjdpfnjjaaGreatDoorRows
import Derived.Lay
import Derived.LaidHandle
import Derived.Stop.Joined
namespace Go.Proofs.YtdalcnjdpfnjjaaGreatDoor
open Go Go.Ev Go.ChangeShapes Go.WideShapes Go.RowKit
set_option maxRecDepth 100000

theorem own : ownKnob Tryz.prog.godebug = none := by kernel_rfl
theorem laidOut : laidOutB Tryz.prog = true := by kernel_rfl
abbrev LAID : List (String × DataW Unit) := Rows.queryOwnRow.laid
theorem gn0 : Tryz.prog.globalNamed "math/bits.deBruijn32tab" = some 0 := by kernel_rfl
theorem gn1 : Tryz.prog.globalNamed "unicode/utf8.first" = some 1 := by kernel_rfl
theorem gn2 : Tryz.prog.globalNamed "unicode/utf8.acceptRanges" = some 2 := by kernel_rfl
theorem gl0 : ((Tryz.prog.globals[0]?).map (·.type)).bind (leaves Tryz.prog 5) = some (List.replicate 32 (.i .u8)) := by kernel_rfl
theorem gl1 : ((Tryz.prog.globals[1]?).map (·.type)).bind (leaves Tryz.prog 5) = some (List.replicate 256 (.i .u8)) := by kernel_rfl
theorem gl2 : ((Tryz.prog.globals[2]?).map (·.type)).bind (leaves Tryz.prog 5) = some (List.replicate 32 (.i .u8)) := by kernel_rfl
theorem fl0 : (flatD (Rows.laid_math_bits_deBruijn32tab : DataW Unit)).bind leavesV = some tab0 := by kernel_rfl
theorem fl1 : (flatD Rows.laid_unicode_utf8_first).bind leavesV = some tab1 := by kernel_rfl
theorem fl2 : (flatD (Rows.laid_unicode_utf8_acceptRanges : DataW Unit)).bind leavesV = some tab2 := by kernel_rfl
theorem plainLaid : LAID.filter (fun x => x.2.handleName?.isSome) = [] := by kernel_rfl

/-- One listed variable. -/
theorem var_cells {W : World} {name : String} {g t : Nat} {cs : Array Value} {fuel : Nat} {d : DataW Unit} {p : List MemPlace} {ls : List Lf} {tab : List V} {g' : Nat} (hn : Tryz.prog.globalNamed name = some g') (hg : Tryz.prog.globalNamed name = some g)
    (ht : (Tryz.prog.globals[g]?).map (·.type) = some t) (hv : W.var? Tryz.prog name = some cs) (hd : DataW.trod (fun _ => ()) Tryz.prog W 0 (fun _ => true) false fuel t cs.toList = some (d, p))
    (hl : ((Tryz.prog.globals[g']?).map (·.type)).bind (leaves Tryz.prog 5) = some ls) (hf : (flatD d).bind leavesV = some tab) :
    ∃ e fz, W.heap[g']? = some (.cells cs e fz) ∧ leavesV cs.toList = some tab := by
  obtain rfl := Option.some.inj (hn.symm.trans hg)
  rw [ht] at hl
  have := (leaves_flat 5 fuel t ls _ _ hl hd).2
  simp only at this
  rw [this] at hf
  refine ?_
  unfold World.var? at hv
  rw [hn] at hv
  simp only [Option.bind_some] at hv
  split at hv
  · rename_i cs' e fz hh
    injection hv with hv; subst hv
    exact ⟨e, fz, hh, by simpa using hf⟩
  · simp at hv

theorem glob_of_laid {W : World} (h : laidMetH Tryz.prog LAID W) : ∃ (a0 a1 a2 : Array Value) (e0 e1 e2 : TypeId) (z0 z1 z2 : Nat × Nat),
    W.heap[0]? = some (.cells a0 e0 z0) ∧ W.heap[1]? = some (.cells a1 e1 z1) ∧ W.heap[2]? = some (.cells a2 e2 z2) ∧ leavesV a0.toList = some tab0 ∧ leavesV a1.toList = some tab1 ∧ leavesV a2.toList = some tab2 := by
  unfold laidMetH at h
  rw [plainLaid] at h
  obtain ⟨ps, ⟨g0, t0, c0, f0, p0, q0, hg0, ht0, hv0, hd0, ⟨g2, t2, c2, f2, p2, q2, hg2, ht2, hv2, hd2, ⟨g1, t1, c1, f1, p1, q1, hg1, ht1, hv1, hd1, _, _⟩, _⟩, _⟩, _⟩ := h
  obtain ⟨e0, z0, k0, m0⟩ := var_cells gn0 hg0 ht0 hv0 hd0 gl0 fl0
  obtain ⟨e1, z1, k1, m1⟩ := var_cells gn1 hg1 ht1 hv1 hd1 gl1 fl1
  obtain ⟨e2, z2, k2, m2⟩ := var_cells gn2 hg2 ht2 hv2 hd2 gl2 fl2
  exact ⟨c0, c1, c2, e0, e1, e2, z0, z1, z2, k0, k1, k2, m0, m1, m2⟩

/-- A package variable's block bears its table. -/
theorem bears_tab {φ : Fi} {a : Array Value} {e : TypeId} {z : Nat × Nat} {tab : List V} (h : leavesV a.toList = some tab) : Bears φ (.cells true tab) 0 a.size (.cells a e z) := by
  have hr := leavesV_sound (φ := φ) h
  refine ⟨a, e, z.1, z.2, rfl, rfl, by have := hr.1; simp at this; omega, fun k v hk => ?_, fun h => by simp at h⟩
  obtain ⟨v', h1, h2⟩ := hr.get hk
  exact ⟨v', by simpa using h1, h2⟩

/-- The beginning: only the package variables. -/
theorem start0 {W : World} (h : laidMetH Tryz.prog LAID W) : ∃ φ : Fi, Inv { F := fun _ => none, B := W.heap.size, old := fun b => W.heap[b]?, G := glob } φ glob W.heap := by
  obtain ⟨a0, a1, a2, e0, e1, e2, z0, z1, z2, k0, k1, k2, m0, m1, m2⟩ := glob_of_laid h
  have hsz : ∀ b o, W.heap[b]? = some o → b < W.heap.size := fun b o h => (Array.getElem?_eq_some_iff.1 h).1
  let φ : Fi := fun i => if i = 0 then some (0, 0, a0.size) else if i = 1 then some (1, 0, a1.size) else if i = 2 then some (2, 0, a2.size) else none
  refine ⟨φ, inv_start ?_ ?_ ?_ ?_⟩
  · intro i; rw [glob_get]; repeat' split
    all_goals rfl
  · intro i hl
    rw [glob_get] at hl ⊢
    by_cases h2 : i = 2
    · subst h2; exact ⟨2, 0, a2.size, _, rfl, k2, bears_tab m2⟩
    · rw [if_neg h2] at hl ⊢
      by_cases h1 : i = 1
      · subst h1; exact ⟨1, 0, a1.size, _, rfl, k1, bears_tab m1⟩
      · rw [if_neg h1] at hl ⊢
        by_cases h0 : i = 0
        · subst h0; exact ⟨0, 0, a0.size, _, rfl, k0, bears_tab m0⟩
        · rw [if_neg h0] at hl; simp [Go.Ev.Obj.live] at hl
  · intro i b d sz hi
    simp only [φ] at hi
    have hnx : glob.next = 3 := rfl
    rw [hnx]
    split at hi
    · simp at hi; obtain ⟨rfl, rfl, rfl⟩ := hi; exact ⟨hsz _ _ k0, by omega⟩
    · split at hi
      · simp at hi; obtain ⟨rfl, rfl, rfl⟩ := hi; exact ⟨hsz _ _ k1, by omega⟩
      · split at hi
        · simp at hi; obtain ⟨rfl, rfl, rfl⟩ := hi; exact ⟨hsz _ _ k2, by omega⟩
        · simp at hi
  · intro g hg
    have hg' : g < 3 := hg
    refine ⟨rfl, ?_⟩
    rcases (show g = 0 ∨ g = 1 ∨ g = 2 by omega) with rfl | rfl | rfl
    · exact ⟨_, rfl⟩
    · exact ⟨_, rfl⟩
    · exact ⟨_, rfl⟩
end Go.Proofs.YtdalcnjdpfnjjaaGreatDoor
