/- Each quiet operation of the evaluator is what the model does: case by case. -/
import Derived.Test.YtdalcnjdpfnjjaaGreatDoorEvD
import Derived.Laws.StructEq
set_option linter.unusedSimpArgs false
set_option linter.unusedVariables false
namespace Go.Ev
open Go

section
variable {P : Program} {w : World} {A : Around} {φ : Fi} {H : Heap} {nt : Nat} {fr : Fr} {a : Act} {nid : Nat} {pf : FuncId → Bool}

theorem partsS_sound {fs : Array Field} (hg : GlobAt φ P.globals.size) (hf : FR φ nt fr a.tmps) : ∀ {ps : List (Nat × Operand)} {qs : List (Nat × Nat × EO)}, partsS P fs ps = some qs →
    qs.length = ps.length ∧ ∀ (i : Nat) o s x j y, qs[i]? = some (o, s, x) → ps[i]? = some (j, y) → placeS P fs j = some (o, s) ∧ VR φ (ev fr x) (a.eval y)
  | [], qs, h => by simp [partsS] at h; subst h; exact ⟨rfl, fun i o s x j y h => by simp at h⟩
  | (i, x) :: ps, qs, h => by
    simp only [partsS] at h
    split at h
    · rename_i o s e es h1 h2 h3
      injection h with h; subst h
      obtain ⟨l1, l2⟩ := partsS_sound hg hf h3
      refine ⟨by simp [l1], fun k o' s' x' j' y' hq hp => ?_⟩
      cases k with
      | zero => simp at hq hp; obtain ⟨rfl, rfl, rfl⟩ := hq; obtain ⟨rfl, rfl⟩ := hp; exact ⟨h1, opnd_sound hg hf h2⟩
      | succ k => exact l2 k o' s' x' j' y' (by simpa using hq) (by simpa using hp)
    · simp at h
theorem partsA_sound {size : Nat} (hg : GlobAt φ P.globals.size) (hf : FR φ nt fr a.tmps) : ∀ {ps : List (Nat × Operand)} {qs : List (Nat × Nat × EO)}, partsA P size ps = some qs →
    qs.length = ps.length ∧ ∀ (i : Nat) o s x j y, qs[i]? = some (o, s, x) → ps[i]? = some (j, y) → some (j * size, size) = some (o, s) ∧ VR φ (ev fr x) (a.eval y)
  | [], qs, h => by simp [partsA] at h; subst h; exact ⟨rfl, fun i o s x j y h => by simp at h⟩
  | (i, x) :: ps, qs, h => by
    simp only [partsA] at h
    split at h
    · rename_i e es h2 h3
      injection h with h; subst h
      obtain ⟨l1, l2⟩ := partsA_sound hg hf h3
      refine ⟨by simp [l1], fun k o' s' x' j' y' hq hp => ?_⟩
      cases k with
      | zero => simp at hq hp; obtain ⟨rfl, rfl, rfl⟩ := hq; obtain ⟨rfl, rfl⟩ := hp; exact ⟨rfl, opnd_sound hg hf h2⟩
      | succ k => exact l2 k o' s' x' j' y' (by simpa using hq) (by simpa using hp)
    · simp at h

/-- The places of a struct's fields, as the model reckons them; only where all are known. -/
theorem run_places (fs : Array Field) (w : World) (h : ∀ f ∈ fs, ∃ i, P.info? f.type = some i) :
    (fs.mapM fun f => (do pure (f.offset, ← sizeOf f.type) : Sem (Nat × Nat))).run P w = .ok (fs.map fun f => (f.offset, P.cellsOf f.type)) w := by
  rw [Array.mapM_eq_mapM_toList]
  have : ∀ l : List Field, (∀ f ∈ l, ∃ i, P.info? f.type = some i) → (l.mapM fun f => (do pure (f.offset, ← sizeOf f.type) : Sem (Nat × Nat))).run P w = .ok (l.map fun f => (f.offset, P.cellsOf f.type)) w := by
    intro l hl
    induction l with
    | nil => simp
    | cons f l ih =>
      obtain ⟨i, hi⟩ := hl f (by simp)
      have ih' := ih fun g hg => hl g (by simp [hg])
      rw [List.mapM_cons]
      simp only [Sem.run_bind, run_sizeOf' hi, Result.andThen_ok, Sem.run_pure, ih']
      simp [Program.cellsOf, hi]
  have := this fs.toList (fun f hf => h f (by simpa using hf))
  simp only [Sem.run_map, this, Result.andThen_ok]
  congr 1
  apply Array.ext'
  simp

theorem q_build {t : TypeId} {parts : Array (Nat × Operand)} {e : EOp} {v : V} {ob : Option Obj} (hc : compOp P pf (.build t parts) = some e) (hg : GlobAt φ P.globals.size) (hf : FR φ nt fr a.tmps) (hq : qop e fr H nid = some (v, ob)) :
    QGood φ w nid v ob ((do pure (Next.value (← Instr.build t (parts.map fun (i, x) => (i, a.eval x)))) : Sem Next).run P w) := by
  simp only [compOp] at hc
  split at hc
  · rename_i fs z hu hz
    split at hc
    case isFalse => simp at hc
    rename_i hfs
    have hfs' : ∀ f ∈ fs, ∃ i, P.info? f.type = some i := by
      intro f hf
      have := List.all_eq_true.1 hfs f (by simpa using hf)
      exact Option.isSome_iff_exists.1 this
    obtain ⟨qs, h1, rfl⟩ := map_some hc
    obtain ⟨l1, l2⟩ := partsS_sound hg hf h1
    simp only [qop] at hq
    split at hq
    · rename_i cs hcs
      simp at hq
      obtain ⟨rfl, rfl⟩ := hq
      obtain ⟨zv, e1, e2, e3, e4, e5, e6⟩ := run_zero hz w
      have hpl := run_places (P := P) fs w hfs'
      obtain ⟨arr', f1, f2⟩ := fill_sound (ψ := φ) (place := fun i => (fs.map fun f => (f.offset, P.cellsOf f.type))[i]?) (qs.map fun p => (p.1, p.2.1, ev fr p.2.2)) (parts.map fun (i, x) => (i, a.eval x)).toList z zv.cells cs (e2 φ)
        (by simp [l1]) (fun i o s x j x' hi hi' => by
          simp only [List.getElem?_map, Array.toList_map] at hi hi'
          obtain ⟨q, hq1, hq2⟩ := map_some hi
          obtain ⟨p, hp1, hp2⟩ := map_some hi'
          obtain ⟨qo, qs', qx⟩ := q
          obtain ⟨pj, px⟩ := p
          simp at hq2 hp2
          obtain ⟨rfl, rfl, rfl⟩ := hq2
          obtain ⟨rfl, rfl⟩ := hp2
          obtain ⟨m1, m2⟩ := l2 i _ _ _ _ _ hq1 hp1
          refine ⟨?_, m2⟩
          unfold placeS at m1
          split at m1
          · rename_i fd hfd
            split at m1
            · simp at m1
              simp [hfd, m1]
            · simp at m1
          · simp at m1) hcs
      refine QGood.sem (v' := .agg arr') ?_ (.agg' f2)
      simp only [Instr.build, Sem.run_bind, e1, Result.andThen_ok, run_under hu, hpl, f1, Sem.run_pure]
    · simp at hq
  · rename_i n el z hu hz
    split at hc
    · rename_i hpos
      obtain ⟨qs, h1, rfl⟩ := map_some hc
      obtain ⟨l1, l2⟩ := partsA_sound hg hf h1
      simp only [qop] at hq
      split at hq
      · rename_i cs hcs
        simp at hq
        obtain ⟨rfl, rfl⟩ := hq
        obtain ⟨zv, e1, e2, e3, e4, e5, e6⟩ := run_zero hz w
        obtain ⟨arr', f1, f2⟩ := fill_sound (ψ := φ) (place := fun i => some (i * P.cellsOf el, P.cellsOf el)) (qs.map fun p => (p.1, p.2.1, ev fr p.2.2)) (parts.map fun (i, x) => (i, a.eval x)).toList z zv.cells cs (e2 φ)
          (by simp [l1]) (fun i o s x j x' hi hi' => by
            simp only [List.getElem?_map, Array.toList_map] at hi hi'
            obtain ⟨q, hq1, hq2⟩ := map_some hi
            obtain ⟨p, hp1, hp2⟩ := map_some hi'
            obtain ⟨qo, qs', qx⟩ := q
            obtain ⟨pj, px⟩ := p
            simp at hq2 hp2
            obtain ⟨rfl, rfl, rfl⟩ := hq2
            obtain ⟨rfl, rfl⟩ := hp2
            exact l2 i _ _ _ _ _ hq1 hp1) hcs
        refine QGood.sem (v' := .agg arr') ?_ (.agg' f2)
        simp only [Instr.build, Sem.run_bind, e1, Result.andThen_ok, run_under hu, run_sizeOf_pos hpos, f1, Sem.run_pure]
      · simp at hq
    · simp at hc
  · simp at hc

/-! ### Strings -/

theorem ofBytes_size (bs : ByteArray) : (ofBytes bs).length = bs.size := by
  simp [ofBytes]
theorem ofBytes_append (x y : ByteArray) : ofBytes (x ++ y) = ofBytes x ++ ofBytes y := by
  simp [ofBytes, ByteArray.data_append]
theorem ofBytes_extract (x : ByteArray) (l h : Nat) : ofBytes (x.extract l h) = ((ofBytes x).take h).drop l := by
  simp [ofBytes, ByteArray.data_extract, List.map_take, List.map_drop, List.drop_take]
theorem ofBytes_get (x : ByteArray) (i : Nat) : (ofBytes x)[i]? = x[i]?.map UInt8.toNat := by
  simp only [ofBytes, List.getElem?_map, Array.getElem?_toList]
  congr 1
theorem ofBytes_inj {x y : ByteArray} (h : ofBytes x = ofBytes y) : x = y := by
  have h1 : x.data.toList = y.data.toList := by
    have : Function.Injective UInt8.toNat := fun a b e => UInt8.toNat_inj.1 e
    exact (List.map_inj_right (fun a b e => UInt8.toNat_inj.1 e)).1 h
  cases x; cases y
  simp at h1
  simp [h1]
theorem toList_beq (x y : ByteArray) : (x.toList == y.toList) = (ofBytes x == ofBytes y) := by
  rw [ByteArray.toList_eq, ByteArray.toList_eq]
  rw [Bool.eq_iff_iff]
  simp only [beq_iff_eq]
  constructor
  · intro h; simp [ofBytes, h]
  · intro h; rw [ofBytes_inj h]
theorem bytesLess_eq : ∀ (x y : List UInt8), Op.bytesLess x y = strLess (x.map UInt8.toNat) (y.map UInt8.toNat)
  | [], [] => rfl
  | [], _ :: _ => rfl
  | _ :: _, [] => rfl
  | a :: x, b :: y => by
    simp only [Op.bytesLess, strLess, List.map_cons]
    rw [bytesLess_eq x y]
    congr 1
    congr 1
    rw [Bool.eq_iff_iff]
    simp only [beq_iff_eq]
    exact UInt8.toNat_inj.symm
theorem toBytes_ofBytes (bs : ByteArray) : toBytes (ofBytes bs) = bs := by
  simp only [toBytes, ofBytes, List.map_map]
  have : (UInt8.ofNat ∘ UInt8.toNat) = id := by funext b; simp
  rw [this]; simp

theorem str_op {op : BinOp} {x y : ByteArray} {v : V} (h : strOp op (ofBytes x) (ofBytes y) = some v) (w : World) : ∃ v', (Op.stringOp op x y).run P w = .ok v' w ∧ VR φ v v' := by
  cases op <;> simp only [strOp] at h <;> try (simp at h; done)
  case add =>
    split at h
    · rename_i hs
      injection h with h; subst h
      rw [ofBytes_size, ofBytes_size] at hs
      refine ⟨.string (x ++ y), ?_, .str _ _ (ofBytes_append x y)⟩
      simp only [Op.stringOp]
      rw [if_neg]
      · rfl
      · have : IntKind.i64.max = 9223372036854775807 := by decide
        omega
    · simp at h
  all_goals
    injection h with h; subst h
    simp only [Op.stringOp]
    have hb : Op.bytesLess x.toList y.toList = strLess (ofBytes x) (ofBytes y) := by rw [ByteArray.toList_eq, ByteArray.toList_eq, bytesLess_eq]; rfl
    refine ⟨_, rfl, ?_⟩
    simp only [toList_beq, hb]
    exact .bool _

/-! ### Whole numbers -/

theorem int_op {op : BinOp} {k : IntKind} {x y : Int} {v : V} (t : TypeId) (h1 : op ≠ .shl) (h2 : op ≠ .shr) (h : intOp op k x y = some v) (w : World) :
    ∃ v', (binOp op t (.int k x) (.int k y)).run P w = .ok v' w ∧ VR φ v v' := by
  cases op <;> simp only [intOp] at h <;> try (first | (simp at h; done) | exact absurd rfl h1 | exact absurd rfl h2)
  case quo =>
    split at h
    · simp at h
    · rename_i hy; injection h with h; subst h
      exact ⟨_, by simp [binOp, Op.intDiv, hy], .int _ _⟩
  case rem =>
    split at h
    · simp at h
    · rename_i hy; injection h with h; subst h
      exact ⟨_, by simp [binOp, Op.intDiv, hy], .int _ _⟩
  case eql => injection h with h; subst h; exact ⟨.bool (decide (x = y)), by simp [binOp, Op.intCmp]; rfl, .bool _⟩
  case neq => injection h with h; subst h; exact ⟨.bool (!decide (x = y)), by simp [binOp, Op.intCmp]; rfl, .bool _⟩
  all_goals
    injection h with h; subst h
    first
      | exact ⟨_, by simp only [binOp, Op.intArith, Op.intBits, Op.intCmp, ne_eq, not_true_eq_false, if_false]; rfl, .int _ _⟩
      | exact ⟨_, by simp only [binOp, Op.intArith, Op.intBits, Op.intCmp, ne_eq, not_true_eq_false, if_false]; rfl, .bool _⟩

theorem shift_op {op : BinOp} {k l : IntKind} {x y : Int} {v : V} (t : TypeId) (hop : op = .shl ∨ op = .shr) (h : shiftOp op k x y = some v) (w : World) :
    ∃ v', (binOp op t (.int k x) (.int l y)).run P w = .ok v' w ∧ VR φ v v' := by
  unfold shiftOp at h
  split at h
  · simp at h
  · rename_i hy
    rcases hop with rfl | rfl
    · simp at h; subst h; exact ⟨_, by simp only [binOp, Op.shift, if_neg hy]; rfl, .int _ _⟩
    · simp at h; subst h; exact ⟨_, by simp only [binOp, Op.shift, if_neg hy]; rfl, .int _ _⟩

end
end Go.Ev
