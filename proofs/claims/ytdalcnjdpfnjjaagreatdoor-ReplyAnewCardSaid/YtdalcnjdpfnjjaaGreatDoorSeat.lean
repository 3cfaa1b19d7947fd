/- This seat's rows: the package variables at the call's beginning; a law's row from the evaluator's runs. -/
import Derived.Test.YtdalcnjdpfnjjaaGreatDoorEnv
import Derived.Test.YtdalcnjdpfnjjaaGreatDoorRowA
import Derived.Test.YtdalcnjdpfnjjaaGreatDoorRows
import Derived.Lay
import Derived.LaidHandle
import Derived.Stop.Joined
namespace Go.Proofs.YtdalcnjdpfnjjaaGreatDoor
open Go Go.Ev Go.ChangeShapes Go.WideShapes Go.RowKit
set_option maxRecDepth 100000

theorem own : ownKnob Tryz.prog.godebug = none := by kernel_rfl
theorem laidOut : laidOutB Tryz.prog = true := by kernel_rfl
abbrev LAID : List (String × DataW Unit) := Rows.queryOwnRow.laid
theorem gn0 : Tryz.prog.globalNamed "math/bits.deBruijn32tab" = some 0 := by kernel_rfl
theorem gn1 : Tryz.prog.globalNamed "unicode/utf8.first" = some 1 := by kernel_rfl
theorem gn2 : Tryz.prog.globalNamed "unicode/utf8.acceptRanges" = some 2 := by kernel_rfl
theorem gl0 : ((Tryz.prog.globals[0]?).map (·.type)).bind (leaves Tryz.prog 5) = some (List.replicate 32 (.i .u8)) := by kernel_rfl
theorem gl1 : ((Tryz.prog.globals[1]?).map (·.type)).bind (leaves Tryz.prog 5) = some (List.replicate 256 (.i .u8)) := by kernel_rfl
theorem gl2 : ((Tryz.prog.globals[2]?).map (·.type)).bind (leaves Tryz.prog 5) = some (List.replicate 32 (.i .u8)) := by kernel_rfl
theorem fl0 : (flatD (Rows.laid_math_bits_deBruijn32tab : DataW Unit)).bind leavesV = some tab0 := by kernel_rfl
theorem fl1 : (flatD Rows.laid_unicode_utf8_first).bind leavesV = some tab1 := by kernel_rfl
theorem fl2 : (flatD (Rows.laid_unicode_utf8_acceptRanges : DataW Unit)).bind leavesV = some tab2 := by kernel_rfl
theorem plainLaid : LAID.filter (fun x => x.2.handleName?.isSome) = [] := by kernel_rfl

/-- One listed variable. -/
theorem var_cells {W : World} {name : String} {g t : Nat} {cs : Array Value} {fuel : Nat} {d : DataW Unit} {p : List MemPlace} {ls : List Lf} {tab : List V} {g' : Nat} (hn : Tryz.prog.globalNamed name = some g') (hg : Tryz.prog.globalNamed name = some g)
    (ht : (Tryz.prog.globals[g]?).map (·.type) = some t) (hv : W.var? Tryz.prog name = some cs) (hd : DataW.trod (fun _ => ()) Tryz.prog W 0 (fun _ => true) false fuel t cs.toList = some (d, p))
    (hl : ((Tryz.prog.globals[g']?).map (·.type)).bind (leaves Tryz.prog 5) = some ls) (hf : (flatD d).bind leavesV = some tab) :
    ∃ e fz, W.heap[g']? = some (.cells cs e fz) ∧ leavesV cs.toList = some tab := by
  obtain rfl := Option.some.inj (hn.symm.trans hg)
  rw [ht] at hl
  have := (leaves_flat 5 fuel t ls _ _ hl hd).2
  simp only at this
  rw [this] at hf
  refine ?_
  unfold World.var? at hv
  rw [hn] at hv
  simp only [Option.bind_some] at hv
  split at hv
  · rename_i cs' e fz hh
    injection hv with hv; subst hv
    exact ⟨e, fz, hh, by simpa using hf⟩
  · simp at hv

theorem glob_of_laid {W : World} (h : laidMetH Tryz.prog LAID W) : ∃ (a0 a1 a2 : Array Value) (e0 e1 e2 : TypeId) (z0 z1 z2 : Nat × Nat),
    W.heap[0]? = some (.cells a0 e0 z0) ∧ W.heap[1]? = some (.cells a1 e1 z1) ∧ W.heap[2]? = some (.cells a2 e2 z2) ∧ leavesV a0.toList = some tab0 ∧ leavesV a1.toList = some tab1 ∧ leavesV a2.toList = some tab2 := by
  unfold laidMetH at h
  rw [plainLaid] at h
  obtain ⟨ps, ⟨g0, t0, c0, f0, p0, q0, hg0, ht0, hv0, hd0, ⟨g2, t2, c2, f2, p2, q2, hg2, ht2, hv2, hd2, ⟨g1, t1, c1, f1, p1, q1, hg1, ht1, hv1, hd1, _, _⟩, _⟩, _⟩, _⟩ := h
  obtain ⟨e0, z0, k0, m0⟩ := var_cells gn0 hg0 ht0 hv0 hd0 gl0 fl0
  obtain ⟨e1, z1, k1, m1⟩ := var_cells gn1 hg1 ht1 hv1 hd1 gl1 fl1
  obtain ⟨e2, z2, k2, m2⟩ := var_cells gn2 hg2 ht2 hv2 hd2 gl2 fl2
  exact ⟨c0, c1, c2, e0, e1, e2, z0, z1, z2, k0, k1, k2, m0, m1, m2⟩

/-- A package variable's block bears its table. -/
theorem bears_tab {φ : Fi} {a : Array Value} {e : TypeId} {z : Nat × Nat} {tab : List V} (h : leavesV a.toList = some tab) : Bears φ (.cells true tab) 0 a.size (.cells a e z) := by
  have hr := leavesV_sound (φ := φ) h
  refine ⟨a, e, z.1, z.2, rfl, rfl, by have := hr.1; simp at this; omega, fun k v hk => ?_, fun h => by simp at h⟩
  obtain ⟨v', h1, h2⟩ := hr.get hk
  exact ⟨v', by simpa using h1, h2⟩

/-- The beginning: only the package variables. -/
theorem start0 {W : World} (h : laidMetH Tryz.prog LAID W) : ∃ φ : Fi, Inv { F := fun _ => none, B := W.heap.size, old := fun b => W.heap[b]?, G := glob } φ glob W.heap := by
  obtain ⟨a0, a1, a2, e0, e1, e2, z0, z1, z2, k0, k1, k2, m0, m1, m2⟩ := glob_of_laid h
  have hsz : ∀ b o, W.heap[b]? = some o → b < W.heap.size := fun b o h => (Array.getElem?_eq_some_iff.1 h).1
  let φ : Fi := fun i => if i = 0 then some (0, 0, a0.size) else if i = 1 then some (1, 0, a1.size) else if i = 2 then some (2, 0, a2.size) else none
  refine ⟨φ, inv_start ?_ ?_ ?_ ?_⟩
  · intro i; rw [glob_get]; repeat' split
    all_goals rfl
  · intro i hl
    rw [glob_get] at hl ⊢
    by_cases h2 : i = 2
    · subst h2; exact ⟨2, 0, a2.size, _, rfl, k2, bears_tab m2⟩
    · rw [if_neg h2] at hl ⊢
      by_cases h1 : i = 1
      · subst h1; exact ⟨1, 0, a1.size, _, rfl, k1, bears_tab m1⟩
      · rw [if_neg h1] at hl ⊢
        by_cases h0 : i = 0
        · subst h0; exact ⟨0, 0, a0.size, _, rfl, k0, bears_tab m0⟩
        · rw [if_neg h0] at hl; simp [Go.Ev.Obj.live] at hl
  · intro i b d sz hi
    simp only [φ] at hi
    have hnx : glob.next = 3 := rfl
    rw [hnx]
    split at hi
    · simp at hi; obtain ⟨rfl, rfl, rfl⟩ := hi; exact ⟨hsz _ _ k0, by omega⟩
    · split at hi
      · simp at hi; obtain ⟨rfl, rfl, rfl⟩ := hi; exact ⟨hsz _ _ k1, by omega⟩
      · split at hi
        · simp at hi; obtain ⟨rfl, rfl, rfl⟩ := hi; exact ⟨hsz _ _ k2, by omega⟩
        · simp at hi
  · intro g hg
    have hg' : g < 3 := hg
    refine ⟨rfl, ?_⟩
    rcases (show g = 0 ∨ g = 1 ∨ g = 2 by omega) with rfl | rfl | rfl
    · exact ⟨_, rfl⟩
    · exact ⟨_, rfl⟩
    · exact ⟨_, rfl⟩

/-! ### With one list of numbers that is handed in and only read -/
theorem start1 {W : World} (h : laidMetH Tryz.prog LAID W) {b off : Nat} {arr : Array Value} {e : TypeId} {fr : Nat × Nat} (hb : W.heap[b]? = some (.cells arr e fr)) (k : IntKind) (zs : List Int)
    (hz : ∀ (j : Nat) z, zs[j]? = some z → arr[off + j]? = some (.int k z)) (hlen : off + zs.length ≤ arr.size) :
    ∃ φ : Fi, Inv { F := fun _ => none, B := W.heap.size, old := fun b => W.heap[b]?, G := glob } φ (glob.alloc (.cells true (zs.map fun z => .int k z))) W.heap ∧ φ 3 = some (b, off, arr.size) := by
  obtain ⟨φ0, v⟩ := start0 h
  have hnx : glob.next = 3 := rfl
  have h3 : φ0 3 = none := by
    cases hq : φ0 3 with
    | none => rfl
    | some x =>
      have := (v.bnd 3 x.1 x.2.1 x.2.2 hq).2
      omega
  let φ : Fi := fun i => if i = 3 then some (b, off, arr.size) else φ0 i
  have hle : φ0.le φ := fun i x hx => by
    by_cases hi : i = 3
    · subst hi; rw [h3] at hx; cases hx
    · simpa [φ, hi] using hx
  have hbs : b < W.heap.size := (Array.getElem?_eq_some_iff.1 hb).1
  refine ⟨φ, inv_start ?_ ?_ ?_ ?_, by simp [φ]⟩
  · intro i
    rw [Go.Ev.Heap.get_alloc]
    split
    · rfl
    · rw [glob_get]; repeat' split
      all_goals rfl
  · intro i hl
    rw [Go.Ev.Heap.get_alloc] at hl ⊢
    split
    · rename_i hi
      rw [hnx] at hi; subst hi
      refine ⟨b, off, arr.size, _, by simp [φ], hb, arr, e, fr.1, fr.2, rfl, rfl, by simpa using hlen, fun j x hx => ?_, fun h => by simp at h⟩
      rw [List.getElem?_map] at hx
      cases hq : zs[j]? with
      | none => rw [hq] at hx; simp at hx
      | some z =>
        rw [hq] at hx; simp at hx; subst hx
        exact ⟨_, hz j z hq, .int _ _⟩
    · rename_i hi
      rw [if_neg hi] at hl
      obtain ⟨b', d, sz, o, h1, h2, h4⟩ := v.obj i hl
      exact ⟨b', d, sz, o, hle _ _ h1, h2, h4.mono hle⟩
  · intro i b' d sz hi
    rw [Go.Ev.Heap.next_alloc, hnx]
    by_cases h4 : i = 3
    · subst h4
      simp [φ] at hi
      obtain ⟨rfl, rfl, rfl⟩ := hi
      exact ⟨hbs, by omega⟩
    · simp only [φ, if_neg h4] at hi
      have := v.bnd i b' d sz hi
      rw [hnx] at this
      exact ⟨this.1, by omega⟩
  · intro g hg
    obtain ⟨h1, _, sz, h4⟩ := v.glb g hg
    have hg' : g < 3 := hg
    refine ⟨?_, sz, hle _ _ h4⟩
    rw [Go.Ev.Heap.get_alloc, if_neg (by omega)]
/-- A list of numbers that is handed in: nothing; of no room; or with its numbers. -/
theorem open_list {H : Type} {enc : TypeId × Value → H} {W : World} {base : Nat} {t e : TypeId} {k : IntKind} {v : Value} {d : DataW H} {ps : List MemPlace} (ht : Tryz.prog.underlying t = some (.slice e)) (he : Tryz.prog.underlying e = some (.int k)) (hc : Tryz.prog.cellsOf e = 1)
    (hb : 1 ≤ Tryz.prog.bytesOf e) (hval : Value.okWide Tryz.prog W .any base t v) (hd : DataW.Trod enc Tryz.prog W 0 (fun _ => true) true t v d ps) (hz : (d.weights Tryz.prog t).all (· ≤ reachBytes) = true) :
    v = .slice none 0 0 ∨ ∃ (a : Addr) (cap : Nat) (zs : List Int), a.spot = none ∧ zs.length ≤ reachBytes ∧ zs.length ≤ cap ∧ v = .slice (some a) zs.length cap ∧ (∀ z ∈ zs, (Lit.int k z).wf = true) ∧
      (cap = 0 ∨ ∃ arr e' fr, W.heap[a.block]? = some (.cells arr e' fr) ∧ a.off + cap ≤ arr.size ∧ ∀ (j : Nat) z, zs[j]? = some z → arr[a.off + j]? = some (.int k z)) := by
  obtain ⟨a0, len, cap, rfl⟩ := okWide_slice ht hval
  obtain ⟨fuel, hf⟩ := hd
  rcases open_ints ht he hc hf with ⟨h1, _⟩ | ⟨a, len', cap', zs, h1, _, hl, _, hlen, hx, hcell, hwf⟩
  · left; simpa [Value.cells] using h1
  right
  simp only [Value.cells, List.cons.injEq, and_true] at h1
  injection h1 with e1 e2 e3
  subst e1 e2 e3
  simp only [if_true] at hlen
  have hsp : a.spot = none := by
    simp only [Value.okWide, ht, Cell.okWide, Cell.ok] at hval
    exact hval.2.2.2.1
  have hdw : d = .slice (lits k (zs.take len)) (lits k (zs.drop len)) := congrArg Prod.fst hx
  have htk : (zs.take len).length = len := by rw [List.length_take]; omega
  refine ⟨a, cap, zs.take len, hsp, ?_, by omega, by rw [htk], fun z hz' => hwf z (List.mem_of_mem_take hz'), ?_⟩
  · rw [hdw] at hz
    simp only [DataW.weights, ht, List.all_cons, Bool.and_eq_true, decide_eq_true_eq, lits, List.length_map] at hz
    have h5 := hz.1
    have h6 := Nat.mul_le_mul (Nat.le_refl ((zs.take len).length + (zs.drop len).length)) hb
    omega
  · by_cases h0 : cap = 0
    · left; exact h0
    right
    have hadd : ∀ i, a.add i = ⟨a.block, a.off + i, none⟩ := fun i => by
      cases a with
      | mk bl of sp => simp only at hsp; subst hsp; simp [Addr.add]
    have hcl := hcell (cap - 1) (by omega)
    rw [hadd] at hcl
    simp only [World.cell?] at hcl
    split at hcl
    · rename_i arr e' fr hh
      simp only [Option.isSome_none, Bool.false_eq_true, if_false] at hcl
      have hs := (Array.getElem?_eq_some_iff.1 hcl).1
      refine ⟨arr, e', fr, hh, by omega, fun j z hj => ?_⟩
      have hj2 : zs[j]? = some z := by
        rw [List.getElem?_take] at hj
        split at hj
        · exact hj
        · simp at hj
      have hjl := (List.getElem?_eq_some_iff.1 hj2).1
      have hcj := hcell j hjl
      rw [hadd] at hcj
      simp only [World.cell?, hh, Option.isSome_none, Bool.false_eq_true, if_false] at hcj
      rw [hcj, List.getD, hj2]; rfl
    · simp at hcl
end Go.Proofs.YtdalcnjdpfnjjaaGreatDoor
