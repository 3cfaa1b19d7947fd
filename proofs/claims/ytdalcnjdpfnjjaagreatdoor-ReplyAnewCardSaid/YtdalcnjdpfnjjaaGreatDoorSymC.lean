/- Symbols: the quiet operations. -/
import Derived.Test.YtdalcnjdpfnjjaaGreatDoorSymB
set_option linter.unusedSimpArgs false
set_option linter.unusedVariables false
namespace Go.Ev
open Go

def SV.cells : SV → List SV
  | .agg cs => cs
  | v => [v]
def SV.isCell : SV → Bool
  | .agg _ | .tup _ => false
  | _ => true

section
variable {ρ : Val} {Th : Thy}

theorem cells_den (v : SV) : (denV ρ v).cells = denVs ρ v.cells := by
  cases v <;> simp [denV, V.cells, SV.cells, denVs]
theorem isCell_den (v : SV) : (denV ρ v).isCell = v.isCell := by
  cases v <;> simp [denV, V.isCell, SV.isCell]
theorem denVs_len (l : List SV) : (denVs ρ l).length = l.length := by rw [denVs_eq, List.length_map]
theorem denVs_take (l : List SV) (n : Nat) : denVs ρ (l.take n) = (denVs ρ l).take n := by rw [denVs_eq, denVs_eq, List.map_take]
theorem denVs_drop (l : List SV) (n : Nat) : denVs ρ (l.drop n) = (denVs ρ l).drop n := by rw [denVs_eq, denVs_eq, List.map_drop]
theorem denVs_app (l l' : List SV) : denVs ρ (l ++ l') = denVs ρ l ++ denVs ρ l' := by rw [denVs_eq, denVs_eq, denVs_eq, List.map_append]
theorem denVs_get (l : List SV) (n : Nat) : (denVs ρ l)[n]? = l[n]?.map (denV ρ) := by rw [denVs_eq, List.getElem?_map]
theorem denVs_isCell (l : List SV) : (denVs ρ l).all V.isCell = l.all SV.isCell := by
  induction l with
  | nil => rfl
  | cons v l ih => simp only [denVs, List.all_cons, ih, isCell_den]

def fillS : List SV → List (Nat × Nat × SV) → Option (List SV)
  | cells, [] => some cells
  | cells, (off, size, v) :: r =>
    if v.cells.length = size ∧ off + size ≤ cells.length then fillS (cells.take off ++ v.cells ++ cells.drop (off + size)) r else none
theorem fillS_ok : ∀ (ps : List (Nat × Nat × SV)) (cs cs' : List SV), fillS cs ps = some cs' → fillA (denVs ρ cs) (ps.map fun p => (p.1, p.2.1, denV ρ p.2.2)) = some (denVs ρ cs')
  | [], cs, cs', h => by simp [fillS] at h; subst h; rfl
  | (off, size, v) :: r, cs, cs', h => by
    simp only [fillS] at h
    split at h
    · rename_i hc
      have := fillS_ok r _ _ h
      simp only [List.map_cons, fillA, cells_den, denVs_len]
      rw [if_pos hc]
      simpa only [denVs_app, denVs_take, denVs_drop] using this
    · simp at h

def repS (n : Nat) (l : List SV) : List SV :=
  match n with
  | 0 => []
  | n + 1 => l ++ repS n l
theorem repS_ok (l : List SV) : ∀ n, denVs ρ (repS n l) = rep n (denVs ρ l)
  | 0 => rfl
  | n + 1 => by simp only [repS, rep, denVs_app, repS_ok l n]
theorem ofVs_rep (z : List V) : ∀ n : Nat, denVs ρ (repS n (ofVs z)) = rep n z := fun n => by rw [repS_ok, den_ofVs]

/-- A number that is plain. -/
def litN : SI → Option Nat
  | .lit n => if 0 ≤ n then some n.toNat else none
  | _ => none
theorem litN_ok {a : SI} {n : Nat} (h : litN a = some n) : denI ρ a = (n : Int) := by
  unfold litN at h
  split at h
  · split at h
    · rename_i h0
      injection h with h; subst h
      simp only [denI]; omega
    · simp at h
  · simp at h

noncomputable def slCellsS (H : SHeap) (es : Nat) : SV → Option (List SV)
  | .nils => some []
  | .sl i o n es' _ => match litN n with
    | some n => match H.get i with
      | .cells _ cs => if es' = es ∧ o + n * es ≤ cs.length then some ((cs.drop o).take (n * es)) else none
      | _ => none
    | none => none
  | _ => none
theorem slCellsS_ok {H : SHeap} {es : Nat} {v : SV} {cs : List SV} (h : slCellsS H es v = some cs) : slCells (denH ρ H) es (denV ρ v) = some (denVs ρ cs) := by
  unfold slCellsS at h
  split at h
  · injection h with h; subst h; rfl
  · rename_i i o n es' f
    split at h
    · rename_i n' hn
      split at h
      · rename_i ro cs' hg
        split at h
        · rename_i hc
          injection h with h; subst h
          simp only [denV, slCells, denH_get, hg, denO, denVs_len, litN_ok hn]
          simp only [Int.toNat_natCast]
          rw [if_pos hc, denVs_take, denVs_drop]
        · simp at h
      · simp at h
    · simp at h
  · simp at h

noncomputable def srcCellsS (H : SHeap) (es : Nat) : SV → Option (List SV × Nat)
  | .str s => if es = 1 then (toCells s).map fun l => (l, l.length) else none
  | .nils => some ([], 0)
  | .sl i o n es' f => match litN n with
    | some m => (slCellsS H es (.sl i o n es' f)).map (·, m)
    | none => none
  | _ => none
theorem srcCellsS_ok (ok : ρ.Ok Th) {H : SHeap} {es : Nat} {v : SV} {cs : List SV} {n : Nat} (h : srcCellsS H es v = some (cs, n)) : srcCells (denH ρ H) es (denV ρ v) = some (denVs ρ cs, n) := by
  unfold srcCellsS at h
  split at h
  · split at h
    · rename_i s he
      cases hs : toCells s with
      | none => rw [hs] at h; simp at h
      | some l =>
        rw [hs] at h
        simp at h
        obtain ⟨rfl, rfl⟩ := h
        have := toCells_ok ok hs
        simp only [denV, srcCells]
        rw [if_pos he, ← this]
        have hl : (denS ρ s).length = l.length := by
          have := congrArg List.length this
          simpa [denVs_len] using this.symm
        rw [hl]
    · simp at h
  · simp at h
    obtain ⟨rfl, rfl⟩ := h
    rfl
  · rename_i i o n' es' f
    split at h
    · rename_i m hm
      cases hs : slCellsS H es (.sl i o n' es' f) with
      | none => rw [hs] at h; simp at h
      | some l =>
        rw [hs] at h
        simp at h
        obtain ⟨rfl, rfl⟩ := h
        have := slCellsS_ok (ρ := ρ) hs
        simp only [denV, litN_ok hm, Int.toNat_natCast] at this
        simp only [denV, srcCells, litN_ok hm, Int.toNat_natCast, this, Option.map_some]
    · simp at h
  · simp at h

/-! Plain values -/
mutual
def closeV : SV → Option V
  | .bool b => some (.bool b)
  | .int k (.lit n) => some (.int k n)
  | .str s => (closeS s).map .str
  | .nilp => some .nilp
  | .ptr i o => some (.ptr i o)
  | .nils => some .nils
  | .nilFn => some .nilFn
  | .nilI => some .nilI
  | .nilm => some .nilm
  | .agg cs => (closeVs cs).map .agg
  | .tup cs => (closeVs cs).map .tup
  | .iface t v => (closeV v).map (.iface t)
  | _ => none
def closeVs : List SV → Option (List V)
  | [] => some []
  | v :: r => match closeV v, closeVs r with
    | some v, some r => some (v :: r)
    | _, _ => none
end
theorem map_some' {α β : Type} {f : α → β} {o : Option α} {b : β} (h : o.map f = some b) : ∃ a, o = some a ∧ f a = b := by
  cases o with
  | none => simp at h
  | some a => exact ⟨a, rfl, by simpa using h⟩
mutual
theorem closeV_ok : ∀ (v : SV) (v' : V), closeV v = some v' → denV ρ v = v'
  | .bool b, v', h => by simp [closeV] at h; subst h; rfl
  | .int k (.lit n), v', h => by simp [closeV] at h; subst h; rfl
  | .int k (.var _), v', h => by simp [closeV] at h
  | .int k (.op ..), v', h => by simp [closeV] at h
  | .int k (.cv ..), v', h => by simp [closeV] at h
  | .int k (.vlen ..), v', h => by simp [closeV] at h
  | .int k (.vat ..), v', h => by simp [closeV] at h
  | .int k (.sum ..), v', h => by simp [closeV] at h
  | .str s, v', h => by
    simp only [closeV] at h
    obtain ⟨l, h1, h2⟩ := map_some' h
    subst h2; simp only [denV, closeS_ok h1]
  | .nilp, v', h => by simp [closeV] at h; subst h; rfl
  | .ptr i o, v', h => by simp [closeV] at h; subst h; rfl
  | .nils, v', h => by simp [closeV] at h; subst h; rfl
  | .nilFn, v', h => by simp [closeV] at h; subst h; rfl
  | .nilI, v', h => by simp [closeV] at h; subst h; rfl
  | .nilm, v', h => by simp [closeV] at h; subst h; rfl
  | .agg cs, v', h => by
    simp only [closeV] at h
    obtain ⟨l, h1, h2⟩ := map_some' h
    subst h2; simp only [denV, closeVs_ok cs l h1]
  | .tup cs, v', h => by
    simp only [closeV] at h
    obtain ⟨l, h1, h2⟩ := map_some' h
    subst h2; simp only [denV, closeVs_ok cs l h1]
  | .iface t v, v', h => by
    simp only [closeV] at h
    obtain ⟨l, h1, h2⟩ := map_some' h
    subst h2; simp only [denV, closeV_ok v l h1]
  | .sl .., v', h => by simp [closeV] at h
  | .fn .., v', h => by simp [closeV] at h
  | .map .., v', h => by simp [closeV] at h
theorem closeVs_ok : ∀ (l : List SV) (l' : List V), closeVs l = some l' → denVs ρ l = l'
  | [], l', h => by simp [closeVs] at h; subst h; rfl
  | v :: r, l', h => by
    simp only [closeVs] at h
    split at h
    · rename_i v0 r0 h1 h2
      injection h with h; subst h
      simp only [denVs, closeV_ok v v0 h1, closeVs_ok r r0 h2]
    · simp at h
end

/-! ### Comparing cell by cell -/

noncomputable def leafEqS : Nat → SV → SV → SM Bool
  | 0, .bool a, .bool b => .ret (a == b)
  | 1, .int k a, .int l b => if k = l then SM.ask (.eqI a b) else .fail
  | 2, .str a, .str b => eqSS a b
  | _, _, _ => .fail
noncomputable def cellsEqS : List Nat → List SV → List SV → SM Bool
  | [], [], [] => .ret true
  | k :: ks, a :: as, b :: bs => (leafEqS k a b).bind fun e => if e then cellsEqS ks as bs else .ret false
  | _, _, _ => .fail
theorem leafEqS_ok (ok : ρ.Ok Th) (k : Nat) (a b : SV) : Snd ρ Th (leafEqS k a b) fun e => leafEq k (denV ρ a) (denV ρ b) = some e := by
  unfold leafEqS
  split
  · exact .ret rfl
  · rename_i k a l b
    split
    · rename_i hk
      refine (Snd.ask ok _).mono fun e he => ?_
      simp only [denV, leafEq]
      rw [if_pos hk]
      exact congrArg some he
    · exact Snd.fail
  · refine (eqSS_ok ok _ _).mono fun e he => ?_
    simp only [denV, leafEq]
    exact congrArg some he
  · exact Snd.fail
theorem cellsEqS_ok (ok : ρ.Ok Th) : ∀ (ks : List Nat) (as bs : List SV), Snd ρ Th (cellsEqS ks as bs) fun e => cellsEq ks (denVs ρ as) (denVs ρ bs) = some e
  | [], [], [] => .ret rfl
  | k :: ks, a :: as, b :: bs => by
    simp only [cellsEqS]
    refine (leafEqS_ok ok k a b).bind fun e he => ?_
    cases e with
    | true =>
      rw [if_pos rfl]
      refine (cellsEqS_ok ok ks as bs).mono fun e' he' => ?_
      simp only [denVs, cellsEq, he, he']
    | false =>
      rw [if_neg (by simp)]
      exact .ret (by simp only [denVs, cellsEq, he])
  | [], [], _ :: _ => Snd.fail
  | [], _ :: _, _ => Snd.fail
  | _ :: _, [], _ => Snd.fail
  | _ :: _, _ :: _, [] => Snd.fail

/-! ### Greatest, least -/

noncomputable def maxS : SV → List SV → SM SV
  | v, [] => .ret v
  | .int k x, .int _ y :: r => (SM.ask (.ltI x y)).bind fun b => maxS (.int k (if b then y else x)) r
  | _, _ => .fail
noncomputable def minS : SV → List SV → SM SV
  | v, [] => .ret v
  | .int k x, .int _ y :: r => (SM.ask (.ltI y x)).bind fun b => minS (.int k (if b then y else x)) r
  | _, _ => .fail
theorem maxS_ok (ok : ρ.Ok Th) : ∀ (r : List SV) (v : SV), Snd ρ Th (maxS v r) fun a => maxA (denV ρ v) (denVs ρ r) = some (denV ρ a)
  | [], v => by cases v <;> exact .ret rfl
  | w :: r, v => by
    unfold maxS
    split
    · rename_i heq; simp at heq
    · rename_i k x l y r' heq
      injection heq with e1 e2
      subst e1; subst e2
      refine (Snd.ask ok _).bind fun b hb => (maxS_ok ok r _).mono fun a ha => ?_
      simp only [denA] at hb
      simp only [denV, denVs, maxA] at ha ⊢
      rw [← ha]
      cases b with
      | true => rw [if_pos (of_decide_eq_true hb)]; rfl
      | false => rw [if_neg (of_decide_eq_false hb)]; rfl
    · exact Snd.fail
theorem minS_ok (ok : ρ.Ok Th) : ∀ (r : List SV) (v : SV), Snd ρ Th (minS v r) fun a => minA (denV ρ v) (denVs ρ r) = some (denV ρ a)
  | [], v => by cases v <;> exact .ret rfl
  | w :: r, v => by
    unfold minS
    split
    · rename_i heq; simp at heq
    · rename_i k x l y r' heq
      injection heq with e1 e2
      subst e1; subst e2
      refine (Snd.ask ok _).bind fun b hb => (minS_ok ok r _).mono fun a ha => ?_
      simp only [denA] at hb
      simp only [denV, denVs, minA] at ha ⊢
      rw [← ha]
      cases b with
      | true => rw [if_pos (of_decide_eq_true hb)]; rfl
      | false => rw [if_neg (of_decide_eq_false hb)]; rfl
    · exact Snd.fail

/-! ### Which place -/

/-- One of the first n: which? -/
noncomputable def pickN (a : SI) : Nat → SM Nat
  | 0 => .fail
  | n + 1 => (SM.ask (.ltI a (.lit (n : Int)))).bind fun b => if b then pickN a n else (SM.need (.ltI a (.lit ((n + 1 : Nat) : Int))) true).bind fun _ => .ret n
noncomputable def placeN (a : SI) (n : Nat) : SM Nat :=
  match litN a with
  | some k => if k < n then .ret k else .fail
  | none => pickN a n
theorem pickN_ok (ok : ρ.Ok Th) (a : SI) : ∀ n, Snd ρ Th (pickN a n) fun k => denI ρ a = (k : Int) ∧ k < n
  | 0 => Snd.fail
  | n + 1 => by
    simp only [pickN]
    refine (Snd.ask ok _).bind fun b hb => ?_
    cases b with
    | true =>
      rw [if_pos rfl]
      exact (pickN_ok ok a n).mono fun k hk => ⟨hk.1, by omega⟩
    | false =>
      rw [if_neg (by simp)]
      refine (Snd.need ok _ _).bind fun _ hc => .ret ?_
      have h1 : ¬ denI ρ a < (n : Int) := of_decide_eq_false hb
      have h2 : denI ρ a < ((n + 1 : Nat) : Int) := of_decide_eq_true hc
      exact ⟨by omega, by omega⟩
theorem placeN_ok (ok : ρ.Ok Th) (a : SI) (n : Nat) : Snd ρ Th (placeN a n) fun k => denI ρ a = (k : Int) ∧ k < n := by
  unfold placeN
  split
  · rename_i k hk
    split
    · rename_i hlt; exact .ret ⟨litN_ok hk, hlt⟩
    · exact Snd.fail
  · exact pickN_ok ok a n
/-- In a slice, of which the length may be a symbol. -/
noncomputable def placeSl (a n : SI) : SM Nat :=
  match litN n with
  | some n => placeN a n
  | none => match litN a with
    | some k => (SM.need (.ltI (.lit (k : Int)) n) true).bind fun _ => .ret k
    | none => .fail
theorem placeSl_ok (ok : ρ.Ok Th) (a n : SI) : Snd ρ Th (placeSl a n) fun k => denI ρ a = (k : Int) ∧ (k : Int) < ((denI ρ n).toNat : Int) := by
  unfold placeSl
  split
  · rename_i n' hn
    refine (placeN_ok ok a n').mono fun k hk => ⟨hk.1, ?_⟩
    rw [litN_ok hn]; omega
  · split
    · rename_i k hk
      refine (Snd.need ok _ _).bind fun _ h => .ret ⟨litN_ok hk, ?_⟩
      have : (k : Int) < denI ρ n := of_decide_eq_true h
      omega
    · exact Snd.fail

/-! ### Cuts of slices -/

def boundS (x : Option SV) (dflt most : Nat) : Option Nat :=
  match x with
  | none => if dflt ≤ most then some dflt else none
  | some (.int _ n) => match litN n with
    | some n => if n ≤ most then some n else none
    | none => none
  | some _ => none
theorem boundS_ok {x : Option SV} {d m n : Nat} (h : boundS x d m = some n) : bound (x.map (denV ρ)) d m = some n := by
  unfold boundS at h
  split at h
  · exact h
  · split at h
    · rename_i k a n' hn
      split at h
      · injection h with h; subst h
        simp only [Option.map_some, denV, bound, litN_ok hn]
        rw [if_pos (by omega)]; simp
      · simp at h
    · simp at h
  · simp at h

/-- The whole of a slice whose length is a symbol, up to a plain place. -/
noncomputable def slCut (es : Nat) (i o : Nat) (n : SI) (full : Bool) (lo hi mx : Option SV) : SM SV :=
  match litN n with
  | some n => SM.ofOpt (match boundS mx n n with
      | some m => match boundS hi n m with
        | some h => match boundS lo 0 h with
          | some l => some (.sl i (o + l * es) (.lit ((h - l : Nat) : Int)) es (match mx with | some _ => m == h | none => full && h == n))
          | none => none
        | none => none
      | none => none)
  | none => match mx, hi with
    | none, some (.int _ h) => match litN h with
      | some h => (SM.need (.ltI n (.lit (h : Int))) false).bind fun _ => match boundS lo 0 h with
        | some l => (if full then SM.ask (.eqI n (.lit (h : Int))) else .ret false).bind fun e => .ret (.sl i (o + l * es) (.lit ((h - l : Nat) : Int)) es e)
        | none => .fail
      | none => .fail
    | _, _ => .fail
theorem slCut_ok (ok : ρ.Ok Th) (es i o : Nat) (n : SI) (full : Bool) (lo hi mx : Option SV) : Snd ρ Th (slCut es i o n full lo hi mx) fun v =>
    (match bound (mx.map (denV ρ)) (denI ρ n).toNat (denI ρ n).toNat with
        | some m => match bound (hi.map (denV ρ)) (denI ρ n).toNat m with
          | some h => match bound (lo.map (denV ρ)) 0 h with
            | some l => some (V.sl i (o + l * es) (h - l) es (match mx.map (denV ρ) with | some _ => m == h | none => full && h == (denI ρ n).toNat), (none : Option Obj))
            | none => none
          | none => none
        | none => none) = some (denV ρ v, none) := by
  unfold slCut
  split
  · rename_i n' hn
    have hnt : (denI ρ n).toNat = n' := by rw [litN_ok hn]; simp
    refine Snd.ofOpt fun v hv => ?_
    split at hv
    · rename_i m hm
      split at hv
      · rename_i h hh
        split at hv
        · rename_i l hl
          injection hv with hv; subst hv
          rw [hnt]
          simp only [boundS_ok hm, boundS_ok hh, boundS_ok hl, denV, denI]
          cases mx <;> simp
        · simp at hv
      · simp at hv
    · simp at hv
  · split
    · rename_i k h0
      split
      · rename_i h hh
        refine (Snd.need ok _ _).bind fun _ hle => ?_
        have hle' : ¬ denI ρ n < (h : Int) := of_decide_eq_false hle
        have hb : bound ((some (SV.int k h0)).map (denV ρ)) (denI ρ n).toNat (denI ρ n).toNat = some h := by
          simp only [Option.map_some, denV, bound, litN_ok hh]
          rw [if_pos (by omega)]; simp
        have hm : bound ((none : Option SV).map (denV ρ)) (denI ρ n).toNat (denI ρ n).toNat = some (denI ρ n).toNat := by simp [bound]
        split
        · rename_i l hl
          have fin : ∀ e : Bool, (full && decide ((h : Nat) = (denI ρ n).toNat)) = e → (match bound ((none : Option SV).map (denV ρ)) (denI ρ n).toNat (denI ρ n).toNat with
              | some m => match bound ((some (SV.int k h0)).map (denV ρ)) (denI ρ n).toNat m with
                | some h => match bound (lo.map (denV ρ)) 0 h with
                  | some l => some (V.sl i (o + l * es) (h - l) es (match (none : Option SV).map (denV ρ) with | some _ => m == h | none => full && h == (denI ρ n).toNat), (none : Option Obj))
                  | none => none
                | none => none
              | none => none) = some (denV ρ (.sl i (o + l * es) (.lit ((h - l : Nat) : Int)) es e), none) := by
            intro e he
            simp only [hm, hb, boundS_ok hl]
            simp only [denV, denI, Option.map_none, Int.toNat_natCast]
            have : (h == (denI ρ n).toNat) = decide (h = (denI ρ n).toNat) := by
              by_cases hx : h = (denI ρ n).toNat <;> simp [hx]
            rw [this, he]
          split
          · rename_i hf
            refine (Snd.ask ok _).bind fun e he => .ret (fin e ?_)
            simp only [denA, denI] at he
            rw [hf, ← he]
            simp only [Bool.true_and]
            exact decide_eq_decide.2 ⟨fun h' => by omega, fun h' => by omega⟩
          · rename_i hf
            refine Snd.bind (P := fun e => e = false) (.ret rfl) fun e he => .ret (fin e ?_)
            have : full = false := by simpa using hf
            rw [this, he]; rfl
        · exact Snd.fail
      · exact Snd.fail
    · exact Snd.fail

end
end Go.Ev
