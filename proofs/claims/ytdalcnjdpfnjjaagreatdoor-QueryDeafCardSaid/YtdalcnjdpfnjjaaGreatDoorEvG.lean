/- Each quiet operation of the evaluator is what the model does: comparisons, conversions, cuts, indexes. -/
import Derived.Test.YtdalcnjdpfnjjaaGreatDoorEvF
set_option linter.unusedSimpArgs false
set_option linter.unusedVariables false
namespace Go.Ev
open Go

section
variable {P : Program} {w : World} {A : Around} {φ : Fi} {H : Heap} {nt : Nat} {fr : Fr} {a : Act} {nid : Nat} {pf : FuncId → Bool} {v : V} {ob : Option Obj} {e : EOp}

/-! ### Two structs, cell by cell -/

theorem cellsEq_len : ∀ (ks : List Nat) (as bs : List V) (r : Bool), cellsEq ks as bs = some r → True := fun _ _ _ _ _ => trivial

theorem cellsEq_split : ∀ (ks ls : List Nat) (as bs : List V) (r : Bool), ks.length ≤ as.length → ks.length ≤ bs.length → cellsEq (ks ++ ls) as bs = some r →
    ∃ q, cellsEq ks (as.take ks.length) (bs.take ks.length) = some q ∧ (q = false → r = false) ∧ (q = true → cellsEq ls (as.drop ks.length) (bs.drop ks.length) = some r)
  | [], ls, as, bs, r, _, _, h => ⟨true, by simp [cellsEq], fun h => by simp at h, fun _ => by simpa using h⟩
  | k :: ks, ls, x :: as, y :: bs, r, h1, h2, h => by
    simp only [List.cons_append, cellsEq, List.length_cons, List.take_succ_cons, List.drop_succ_cons] at h ⊢
    cases hx : leafEq k x y with
    | none => simp [hx] at h
    | some q =>
      cases q with
      | false => simp [hx] at h; exact ⟨false, rfl, fun _ => h, fun h => by simp at h⟩
      | true => simp only [hx] at h ⊢; exact cellsEq_split ks ls as bs r (by simpa using h1) (by simpa using h2) h
  | _ :: _, _, [], _, _, h1, _, _ => by simp at h1
  | _ :: _, _, _ :: _, [], _, _, h2, _ => by simp at h2

theorem leaf_sound {k : Nat} {x y : V} {x' y' : Value} {r : Bool} (h : leafEq k x y = some r) (hx : VR φ x x') (hy : VR φ y y') {d : Nat} {t : TypeId}
    (ht : (k = 0 ∧ P.underlying t = some .bool) ∨ (k = 1 ∧ ∃ k', P.underlying t = some (.int k')) ∨ (k = 2 ∧ P.underlying t = some .string)) :
    (Op.equalIn (d + 1) t x' y').run P w = .ok r w := by
  rcases ht with ⟨rfl, ht⟩ | ⟨rfl, k', ht⟩ | ⟨rfl, ht⟩
  · cases x <;> cases y <;> simp [leafEq] at h
    subst h
    rw [hx.of_bool, hy.of_bool]; exact run_equalIn_bool w d t _ _ ht
  · cases x <;> cases y <;> simp [leafEq] at h
    obtain ⟨rfl, rfl⟩ := h
    rw [hx.of_int, hy.of_int, run_equalIn_int w d t _ _ _ _ ht]
    rfl
  · cases x <;> cases y <;> simp [leafEq] at h
    subst h
    obtain ⟨bs, rfl, e1⟩ := hx.of_str
    obtain ⟨bs', rfl, e2⟩ := hy.of_str
    rw [run_equalIn_string w d t _ _ ht, toList_beq, e1, e2]

theorem VRs.extract {cs : List V} {xs : Array Value} (h : VRs φ cs xs.toList) (o n : Nat) : VRs φ ((cs.drop o).take n) (xs.extract o (o + n)).toList := by
  have : (xs.extract o (o + n)).toList = (xs.toList.drop o).take n := by simp
  rw [this]; exact (h.drop o).take n

theorem agg_of {t : TypeId} {fs : Array Field} (h : P.underlying t = some (.struct fs)) : aggOf P t = some true := by simp [aggOf, h]
theorem noagg_of {t : TypeId} (h : P.underlying t = some .bool ∨ (∃ k', P.underlying t = some (.int k')) ∨ P.underlying t = some .string) : aggOf P t = some false := by
  rcases h with h | ⟨k, h⟩ | h <;> simp [aggOf, h]

/-- What a type's kinds say: its cells, and that two values of it are compared so. -/
def LeafOk (P : Program) (d : Nat) : Prop := ∀ (t : TypeId) (ks : List Nat), leafKs P d t = some ks →
  (∃ fs, P.underlying t = some (.struct fs) ∧ ∀ (φ : Fi) (w : World) (n : Nat) (cs ds : List V) (xs ys : Array Value) (r : Bool), d ≤ n → cs.length = ks.length → ds.length = ks.length → VRs φ cs xs.toList → VRs φ ds ys.toList →
      cellsEq ks cs ds = some r → (Op.equalIn n t (.agg xs) (.agg ys)).run P w = .ok r w) ∨
  ((P.underlying t = some .bool ∨ (∃ k', P.underlying t = some (.int k')) ∨ P.underlying t = some .string) ∧ P.cellsOf t = 1 ∧ ∃ k, ks = [k] ∧
    ∀ (φ : Fi) (w : World) (n : Nat) (x y : V) (x' y' : Value) (r : Bool), d ≤ n → VR φ x x' → VR φ y y' → leafEq k x y = some r → (Op.equalIn n t x' y').run P w = .ok r w)

theorem fields_ok {d : Nat} (hd : LeafOk P d) : ∀ (fs : List Field) (o : Nat) (ks : List Nat), leafFs P (leafKs P d) fs o = some ks →
    ∀ (φ : Fi) (w : World) (n : Nat) (cs ds : List V) (xs ys : Array Value) (r : Bool), d ≤ n → cs.length = o + ks.length → ds.length = o + ks.length → VRs φ cs xs.toList → VRs φ ds ys.toList →
      cellsEq ks (cs.drop o) (ds.drop o) = some r → (Op.eqFields n xs ys fs).run P w = .ok r w
  | [], o, ks, h, φ, w, n, cs, ds, xs, ys, r, _, h1, h2, hx, hy, hc => by
    simp [leafFs] at h; subst h
    simp at h1 h2
    rw [List.drop_eq_nil_of_le (by omega), List.drop_eq_nil_of_le (by omega)] at hc
    simp [cellsEq] at hc; subst hc
    simp [Op.eqFields]
  | f :: fs, o, ks, h, φ, w, n, cs, ds, xs, ys, r, hn, h1, h2, hx, hy, hc => by
    simp only [leafFs] at h
    split at h
    · rename_i ks1 ks2 e1 e2
      split at h
      · rename_i hcond
        obtain ⟨hname, hoff, hlen⟩ := hcond
        injection h with h; subst h
        simp at h1 h2
        obtain ⟨q, q1, q2, q3⟩ := cellsEq_split ks1 ks2 _ _ r (by simp; omega) (by simp; omega) hc
        rw [List.drop_drop, List.drop_drop] at q3
        have hrec : q = true → (Op.eqFields n xs ys fs).run P w = .ok r w := fun hq =>
          fields_ok hd fs (o + P.cellsOf f.type) ks2 e2 φ w n cs ds xs ys r hn (by omega) (by omega) hx hy (by rw [← hlen]; exact q3 hq)
        have hpart : ∃ A B, (part f.type xs f.offset).run P w = .ok A w ∧ (part f.type ys f.offset).run P w = .ok B w ∧ (Op.equalIn n f.type A B).run P w = .ok q w := by
          rcases hd f.type ks1 e1 with ⟨fs', hu, hall⟩ | ⟨hu, h1c, k, rfl, hall⟩
          · refine ⟨.agg (xs.extract o (o + P.cellsOf f.type)), .agg (ys.extract o (o + P.cellsOf f.type)), ?_, ?_, ?_⟩
            · simp [part, run_isAgg (agg_of hu), run_sizeOf_under hu, hoff]
            · simp [part, run_isAgg (agg_of hu), run_sizeOf_under hu, hoff]
            · rw [hlen] at q1
              exact hall φ w n _ _ _ _ q hn (by simp; omega) (by simp; omega) (hx.extract o _) (hy.extract o _) q1
          · have hxl : o < cs.length := by simp at h1; omega
            have hyl : o < ds.length := by simp at h2; omega
            obtain ⟨x', hx1, hx2⟩ := hx.get (List.getElem?_eq_getElem hxl)
            obtain ⟨y', hy1, hy2⟩ := hy.get (List.getElem?_eq_getElem hyl)
            rw [Array.getElem?_toList] at hx1 hy1
            refine ⟨x', y', ?_, ?_, ?_⟩
            · simp [part, run_isAgg (noagg_of hu), hoff, hx1]
            · simp [part, run_isAgg (noagg_of hu), hoff, hy1]
            · refine hall φ w n _ _ _ _ q hn hx2 hy2 ?_
              rw [List.drop_eq_getElem_cons hxl, List.drop_eq_getElem_cons hyl] at q1
              simp only [List.length_cons, List.length_nil, List.take_succ_cons, List.take_zero, cellsEq] at q1
              cases hq : leafEq k cs[o] ds[o] with
              | none => simp [hq] at q1
              | some b => cases b <;> simp [hq] at q1 <;> rw [← q1]
        obtain ⟨A', B', p1, p2, p3⟩ := hpart
        simp only [Op.eqFields]
        rw [if_pos hname]
        simp only [Sem.run_bind, p1, p2, p3, Result.andThen_ok]
        cases q with
        | false => simp [q2 rfl]
        | true => simp [hrec rfl]
      · simp at h
    · simp at h

theorem leafOk : ∀ d, LeafOk P d
  | 0, t, ks, h => by simp [leafKs] at h
  | d + 1, t, ks, h => by
    simp only [leafKs] at h
    split at h
    · rename_i hu
      split at h
      · rename_i h1; injection h with h; subst h
        refine .inr ⟨.inl hu, h1, 0, rfl, fun φ w n x y x' y' r hn hx hy hl => ?_⟩
        obtain ⟨n, rfl⟩ : ∃ m, n = m + 1 := ⟨n - 1, by omega⟩
        exact leaf_sound hl hx hy (.inl ⟨rfl, hu⟩)
      · simp at h
    · rename_i k hu
      split at h
      · rename_i h1; injection h with h; subst h
        refine .inr ⟨.inr (.inl ⟨_, hu⟩), h1, 1, rfl, fun φ w n x y x' y' r hn hx hy hl => ?_⟩
        obtain ⟨n, rfl⟩ : ∃ m, n = m + 1 := ⟨n - 1, by omega⟩
        exact leaf_sound hl hx hy (.inr (.inl ⟨rfl, _, hu⟩))
      · simp at h
    · rename_i hu
      split at h
      · rename_i h1; injection h with h; subst h
        refine .inr ⟨.inr (.inr hu), h1, 2, rfl, fun φ w n x y x' y' r hn hx hy hl => ?_⟩
        obtain ⟨n, rfl⟩ : ∃ m, n = m + 1 := ⟨n - 1, by omega⟩
        exact leaf_sound hl hx hy (.inr (.inr ⟨rfl, hu⟩))
      · simp at h
    · rename_i fs hu
      split at h
      · rename_i hp
        refine .inl ⟨fs, hu, fun φ w n cs ds xs ys r hn h1 h2 hx hy hc => ?_⟩
        obtain ⟨n, rfl⟩ : ∃ m, n = m + 1 := ⟨n - 1, by omega⟩
        have hfo : P.fieldsOf t = fs := by simp [Program.fieldsOf, hu]
        rw [run_equalIn_struct w n t xs ys (by rw [hfo]; exact hu) hp, hfo]
        exact fields_ok (leafOk d) fs.toList 0 ks h φ w n cs ds xs ys r (by omega) (by simpa using h1) (by simpa using h2) hx hy (by simpa using hc)
      · simp at h
    · simp at h

end
end Go.Ev
