/- Each loud operation of the evaluator (but a call) is what the model does: append, copy, clear, the steps of a range over a string. -/
import Derived.Test.YtdalcnjdpfnjjaaGreatDoorEvL
set_option linter.unusedSimpArgs false
set_option linter.unusedVariables false
namespace Go.Ev
open Go

theorem growBy_le (newLen c : Nat) : Builtin.growBy newLen 4 c ≤ 3 * c + 2000 := by
  simp only [Builtin.growBy]
  repeat' split
  all_goals omega
theorem nextcap_le (need old : Nat) (h : old < need) : Builtin.nextslicecap need old ≤ 3 * need + 2000 := by
  unfold Builtin.nextslicecap
  split
  · omega
  · split
    · omega
    · have := growBy_le need old; omega

section
variable {P : Program} {w : World} {A : Around} {φ : Fi} {H H' : Heap} {nt : Nat} {fr : Fr} {a : Act} {pf : FuncId → Bool} {v : V} {e : EOp}

/-- What is appended, as the model reads it. -/
theorem src_read (hv : Inv A φ H w.heap) {es : Nat} {x : V} {xs : List V} {m : Nat} (h : srcCells H es x = some (xs, m)) {x' : Value} (r : VR φ x x') :
    (∀ w2 : World, (Builtin.lenOf x').run P w2 = .ok m w2) ∧ xs.length = m * es ∧
    ∀ k, k ≤ m → ∃ arr : Array Value, (∀ w2 : World, w2.heap = w.heap → (Builtin.firstCells es k x').run P w2 = .ok arr w2) ∧ VRs φ (xs.take (k * es)) arr.toList := by
  cases x with
  | str s =>
    simp only [srcCells] at h
    split at h
    · rename_i he; subst he
      simp at h; obtain ⟨rfl, rfl⟩ := h
      obtain ⟨bs, rfl, rfl⟩ := r.of_str
      refine ⟨fun w2 => by simp [Builtin.lenOf, ofBytes_size], by simp, fun k hk => ⟨_, fun w2 _ => rfl, ?_⟩⟩
      simp only [Nat.mul_one]
      rw [← List.map_take]
      have : (ofBytes bs).take k = ofBytes (bs.extract 0 k) := by rw [ofBytes_extract]; simp
      rw [this]
      simp only [ofBytes, List.map_map, Array.toList_map]
      exact VRs.map' _ _ _ (fun b => .int _ _)
    · simp at h
  | nils =>
    simp [srcCells] at h; obtain ⟨rfl, rfl⟩ := h
    rw [r.of_nils]
    refine ⟨fun w2 => rfl, by simp, fun k hk => ⟨#[], fun w2 _ => rfl, by simp; exact .nil _⟩⟩
  | sl i o n es' f =>
    simp only [srcCells] at h
    obtain ⟨cs, hcs, h⟩ := map_some h
    simp at h; obtain ⟨rfl, rfl⟩ := h
    simp only [slCells] at hcs
    split at hcs
    · rename_i ro cs' hg
      split at hcs
      · rename_i hcond
        obtain ⟨rfl, hle⟩ := hcond
        injection hcs with hcs; subst hcs
        rcases r.of_sl with ⟨b, d, sz, c, hφ, h1, h2, h3, rfl⟩ | ⟨rfl, ad, _, rfl⟩
        · refine ⟨fun w2 => rfl, by simp; omega, fun k hk => ?_⟩
          have hke : k * es' ≤ n * es' := Nat.mul_le_mul_right _ hk
          obtain ⟨arr, g1, g2, g3⟩ := hv.readRow (P := P) hg hφ (o := o) (n := k * es') (by omega)
          refine ⟨arr, fun w2 hw => by simpa [Builtin.firstCells] using g1 w2 hw, ?_⟩
          rw [List.take_take, Nat.min_eq_left hke]
          exact g3
        · refine ⟨fun w2 => rfl, by simp, fun k hk => ⟨#[], fun w2 hw => ?_, ?_⟩⟩
          · obtain rfl : k = 0 := by omega
            simpa [Builtin.firstCells] using run_loadCells_list (P := P) w2 ad [] (fun j v hj => by simp at hj)
          · simp; exact .nil _
      · simp at hcs
    · simp at hcs
  | _ => simp [srcCells] at h

/-- The tail of 'append': what follows once it is known how many elements come. -/
def appTail (elem : TypeId) (size sLen sCap n : Nat) (zeros : Prop) [Decidable zeros] (base : Option Addr) (s x : Value) (appended : Sem (Array Value)) : Sem Value := do
  let need := sLen + n
  if need ≤ sCap then
    let new ← appended
    if let some a := base then storeCells (a.add (sLen * size)) new.toList
    pure (.slice base need sCap)
  else
    if (need : Int) > IntKind.i64.max ∧ (zeros ∨ (← typeInfo elem).bytes = 0) then runtimePanic (.error "growslice: len out of range")
    if Builtin.nextslicecap need sCap * (← typeInfo elem).bytes > 2 ^ 48 then (if zeros then runtimePanic (.error "growslice: len out of range") else do
      if !(← Builtin.mayShare size sLen n base x) then mark .noRoom
      unsupported (.resourceLimit "append: a slice or a string whose bytes no memory bears"))
    let newCap ← choose (.appendCap need sCap elem)
    askRoom (newCap * (← typeInfo elem).bytes)
    let old ← Builtin.firstCells size sLen s
    let new ← appended
    let rest := Builtin.zeroCells (← zeroValue elem).cells (newCap - need)
    pure (.slice (some (← newRow elem (old ++ new ++ rest))) need newCap)

/-- The tail, where no capacity is left. -/
theorem appTail_grow {elem : TypeId} {i : TypeInfo} {size sLen sCap n : Nat} {zeros : Prop} [Decidable zeros] {base : Option Addr} {s x : Value} {appended : Sem (Array Value)} {old new : Array Value} {z : Value}
    (hi : P.info? elem = some i) (hz : ∀ w2, (zeroValue elem).run P w2 = .ok z w2) (hneed : ¬ sLen + n ≤ sCap) (hb : (sLen + n) * i.bytes ≤ 2 ^ 44) (hb1 : 1 ≤ i.bytes) (hb2 : i.bytes ≤ 2 ^ 20)
    (hold : ∀ w2 : World, w2.heap = w.heap → (Builtin.firstCells size sLen s).run P w2 = .ok old w2) (hnew : ∀ w2 : World, w2.heap = w.heap → appended.run P w2 = .ok new w2) :
    ∃ newCap, sLen + n ≤ newCap ∧ (appTail elem size sLen sCap n zeros base s x appended).run P w =
      .ok (.slice (some ⟨w.heap.size, 0, none⟩) (sLen + n) newCap) { w with drawn := w.drawn + 1, heap := w.heap.push (.cells (old ++ new ++ Builtin.zeroCells z.cells (newCap - (sLen + n))) elem) } := by
  let nc := (Question.appendCap (sLen + n) sCap elem).cut (w.tape w.drawn (.appendCap (sLen + n) sCap elem))
  refine ⟨nc, by simp [nc, Question.cut], ?_⟩
  have hle : sLen + n ≤ 2 ^ 44 := by
    have := Nat.le_mul_of_pos_right (sLen + n) (show 0 < i.bytes by omega); omega
  have c1 : ¬ (((sLen + n : Nat) : Int) > IntKind.i64.max ∧ (zeros ∨ i.bytes = 0)) := by
    have : IntKind.i64.max = 9223372036854775807 := by decide
    rw [this]; omega
  have c2 : ¬ Builtin.nextslicecap (sLen + n) sCap * i.bytes > 2 ^ 48 := by
    have h1 := nextcap_le (sLen + n) sCap (by omega)
    have h2 : Builtin.nextslicecap (sLen + n) sCap * i.bytes ≤ (3 * (sLen + n) + 2000) * i.bytes := Nat.mul_le_mul_right _ h1
    have h3 : (3 * (sLen + n) + 2000) * i.bytes = 3 * ((sLen + n) * i.bytes) + 2000 * i.bytes := by rw [Nat.add_mul, Nat.mul_assoc]
    omega
  have hw2 : ({ w with drawn := w.drawn + 1 } : World).heap = w.heap := rfl
  simp only [appTail, if_neg hneed, Sem.run_bind, run_info hi, Result.andThen_ok]
  rw [if_neg c1]
  simp only [Sem.run_bind, Sem.run_pure, run_info hi, Result.andThen_ok]
  rw [if_neg c2]
  simp only [Sem.run_bind, Sem.run_pure, run_info hi, Result.andThen_ok, run_choose, Question.forced, Bool.false_eq_true, if_false, run_askRoom, hold _ hw2, hnew _ hw2, hz, run_newRow]
  rfl

theorem appC_sound {elem : TypeId} {i : TypeInfo} {m : Nat} {zeros : Prop} [Decidable zeros] {s : V} {s' x' : Value} {base : Option Addr} {sLen sCap : Nat} {xs : List V} {appended : Sem (Array Value)} {new : Array Value} {z : List V}
    (hv : Inv A φ H w.heap) (hi : P.info? elem = some i) (hz : zeroCs P elem = some z) (hs : VR φ s s') (hse : s' = .slice base sLen sCap) (hm : m ≠ 0) (hxl : xs.length = m * i.size)
    (hnew : ∀ w2 : World, w2.heap = w.heap → appended.run P w2 = .ok new w2) (hxs : VRs φ xs new.toList)
    (hq : appC i.size i.bytes m s xs H = some (v, H')) :
    ∃ (φ' : Fi) (w' : World) (v' : Value), Grow φ H φ' H' ∧ Inv A φ' H' w'.heap ∧ Still w w' ∧ (appTail elem i.size sLen sCap m zeros base s' x' appended).run P w = .ok v' w' ∧ VR φ' v v' := by
  have hsz : P.cellsOf elem = i.size := by simp [Program.cellsOf, hi]
  have hzr : ∃ zv : Value, (∀ w2, (zeroValue elem).run P w2 = .ok zv w2) ∧ zv.cells.size = i.size := by
    obtain ⟨zv, e1, e2, e3, _⟩ := run_zero hz w
    refine ⟨zv, fun w2 => ?_, by rw [e3, hsz]⟩
    obtain ⟨zv', f1, f2, f3, _⟩ := run_zero hz w2
    have : zv = zv' := by
      unfold zeroCs at hz
      cases hzz : i.zero with
      | none => simp [zeroValue, run_info hi, hzz] at e1
      | some q =>
        simp [zeroValue, run_info hi, hzz] at e1 f1
        rw [← e1, ← f1]
    rw [this]; exact f1
  obtain ⟨zv, hzv, hzs⟩ := hzr
  have hn : φ H.next = none := hv.dead_at_next (Nat.le_refl _)
  have hxs1 := hxs.1
  simp at hxs1
  -- the way in which all is copied
  have grow : ∀ (old : List V) (olda : Array Value) (n : Nat), sLen = n → VRs φ old olda.toList → old.length = n * i.size → (∀ w2 : World, w2.heap = w.heap → (Builtin.firstCells i.size sLen s').run P w2 = .ok olda w2) →
      ¬ sLen + m ≤ sCap → (n + m) * i.bytes ≤ 2 ^ 44 → 1 ≤ i.bytes → i.bytes ≤ 2 ^ 20 →
      ∃ (w' : World) (v' : Value) (o' : Go.Obj) (sz : Nat), (appTail elem i.size sLen sCap m zeros base s' x' appended).run P w = .ok v' w' ∧ Still w w' ∧ w'.heap = w.heap.push o' ∧
        VR (φ.put H.next w.heap.size 0 sz) (.sl H.next 0 (n + m) i.size false) v' ∧ Bears (φ.put H.next w.heap.size 0 sz) (.cells false (old ++ xs)) 0 sz o' := by
    intro old olda n hln hold hol hrd hcap hb hb1 hb2
    subst hln
    obtain ⟨nc, h1, h2⟩ := appTail_grow (x := x') (base := base) (zeros := zeros) hi hzv hcap hb hb1 hb2 hrd hnew
    have hold1 := hold.1
    simp at hold1
    have hrest : (Builtin.zeroCells zv.cells (nc - (sLen + m))).size = (nc - (sLen + m)) * i.size := by simp [Builtin.zeroCells, hzs]
    have htot : (olda ++ new ++ Builtin.zeroCells zv.cells (nc - (sLen + m))).size = nc * i.size := by
      have e1 : nc * i.size = sLen * i.size + m * i.size + (nc - (sLen + m)) * i.size := by
        rw [← Nat.add_mul, ← Nat.add_mul]; congr 1; omega
      simp only [Array.size_append, hrest]; omega
    refine ⟨_, _, .cells (olda ++ new ++ Builtin.zeroCells zv.cells (nc - (sLen + m))) elem, nc * i.size, h2, ⟨rfl, rfl⟩, rfl, VR.newSl _ _ _ _ _ _ _ _ h1 (fun h => by simp at h) (Nat.le_refl _), ?_⟩
    have hle := Fi.le_put φ H.next w.heap.size 0 (nc * i.size) hn
    have := Bears.new (ψ := φ.put H.next w.heap.size 0 (nc * i.size)) (cs := old ++ xs) (arr := olda ++ new ++ Builtin.zeroCells zv.cells (nc - (sLen + m))) (e := elem) (by
      have e2 : (olda ++ new ++ Builtin.zeroCells zv.cells (nc - (sLen + m))).toList.take (old ++ xs).length = olda.toList ++ new.toList := by
        rw [Array.toList_append, Array.toList_append, List.take_append_of_le_length (by simp; omega), List.take_of_length_le (by simp; omega)]
      rw [e2]
      exact (hold.append hxs).mono hle) (by simp; omega)
    rwa [htot] at this
  unfold appC at hq
  split at hq
  · -- nil
    split at hq
    · rename_i hcond
      obtain ⟨q1, q2, q3, q4⟩ := hcond
      simp at hq; obtain ⟨rfl, rfl⟩ := hq
      have hs0 := hs.of_nils
      rw [hs0] at hse
      injection hse with e1 e2 e3
      subst e1; subst e2; subst e3
      obtain ⟨w', v', o', sz, h1, hstl, h2, h3, h4⟩ := grow [] #[] 0 rfl (by simp; exact .nil _) (by simp) (fun w2 _ => by rw [hs0]; rfl) (by omega) (by simpa using q1) q2 q3
      refine ⟨φ.put H.next w.heap.size 0 sz, w', v', Grow.put _ _ _ _ _ _ (by simp [Heap.alloc]), ?_, hstl, h1, by simpa using h3⟩
      rw [h2]
      exact hv.alloc (by simpa using h4)
    · simp at hq
  · rename_i i' o n es' f
    split at hq
    · rename_i ro cs hg
      split at hq
      · rename_i hcond
        obtain ⟨rfl, q1, q2, q3, q4, q5⟩ := hcond
        have hrd : ∃ olda : Array Value, VRs φ ((cs.drop o).take (n * i.size)) olda.toList ∧ sLen = n ∧ (∀ w2 : World, w2.heap = w.heap → (Builtin.firstCells i.size sLen s').run P w2 = .ok olda w2) := by
          rcases hs.of_sl with ⟨b, d, sz, c, hφ, h1, h2, h3, rfl⟩ | ⟨rfl, ad, _, rfl⟩
          · injection hse with e1 e2 e3
            subst e2
            obtain ⟨arr, g1, g2, g3⟩ := hv.readRow (P := P) hg hφ (o := o) (n := n * i.size) q1
            exact ⟨arr, g3, rfl, fun w2 hw => by simpa [Builtin.firstCells] using g1 w2 hw⟩
          · injection hse with e1 e2 e3
            subst e2
            refine ⟨#[], by simp; exact .nil _, rfl, fun w2 _ => ?_⟩
            simpa [Builtin.firstCells] using run_loadCells_list (P := P) w2 ad [] (fun j v hj => by simp at hj)
        obtain ⟨olda, ho1, ho2, ho3⟩ := hrd
        have holdlen : ((cs.drop o).take (n * i.size)).length = n * i.size := by simp; omega
        by_cases hcap : sLen + m ≤ sCap
        · -- in place
          rcases hs.of_sl with ⟨b, d, sz, c, hφ, h1, h2, h3, hse2⟩ | ⟨hn0, ad, _, hse2⟩
          · rw [hse2] at hse
            injection hse with e1 e2 e3
            subst e1; subst e2; subst e3
            cases f with
            | true => have := h2 rfl; omega
            | false =>
              simp only [Bool.false_eq_true, if_false] at hq
              cases ro with
              | true => simp at hq
              | false =>
                simp at hq
                obtain ⟨rfl, rfl⟩ := hq
                obtain ⟨arr, ty, lo, hi', g1, g2, g3, g4, g5⟩ := hv.cells hg hφ
                have hbnd : n * i.size + m * i.size ≤ c * i.size := by rw [← Nat.add_mul]; exact Nat.mul_le_mul_right _ hcap
                have hrun := run_storeRow P b (d + o + n * i.size) ty lo hi' new.toList 0 arr w g1 (by simp; omega) (nofreeze (g5 rfl)) (hxs.isCell q5)
                refine ⟨φ.put H.next b (d + o) sz, { w with heap := w.heap.setIfInBounds b (.cells (putRow arr (d + o + n * i.size + 0) new.toList) ty (lo, hi')) }, .slice (some ⟨b, d + o, none⟩) (n + m) c, Grow.put _ _ _ _ _ _ (by simp [Heap.alloc, Heap.set]), ?_, ⟨rfl, rfl⟩, ?_, ?_⟩
                · refine hv.rename (by rw [hg]; rfl) rfl hφ g1 ⟨_, ty, lo, hi', rfl, by rw [putRow_size]; exact g2, by simp; omega, ?_, fun _ => by rw [putRow_size]; exact g5 rfl⟩
                  intro k y hk
                  have hle := Fi.le_put φ H.next b (d + o) sz hn
                  rw [putRow_get _ _ _ (by simp; omega)]
                  by_cases hin : k < n * i.size
                  · rw [if_neg (by simp; omega)]
                    rw [List.getElem?_append_left (by omega), List.getElem?_take, if_pos hin, List.getElem?_drop] at hk
                    obtain ⟨y', k1, k2⟩ := g4 _ _ hk
                    exact ⟨y', by rw [Nat.add_assoc]; exact k1, k2⟩
                  · rw [List.getElem?_append_right (by omega), holdlen] at hk
                    obtain ⟨y', k1, k2⟩ := hxs.get hk
                    have hlt : k - n * i.size < new.toList.length := (List.getElem?_eq_some_iff.1 k1).1
                    rw [if_pos (by simp at hlt ⊢; omega)]
                    exact ⟨y', by rw [show d + o + k - (d + o + n * i.size + 0) = k - n * i.size by omega]; exact k1, k2⟩
                · simp only [appTail, if_pos hcap, Sem.run_bind, hnew w rfl, Result.andThen_ok, addr_add, hrun, Sem.run_pure]
                · have := VR.sl (φ := φ.put H.next b (d + o) sz) H.next 0 (n + m) i.size false b (d + o) sz c (Fi.put_same _ _ _ _ _) hcap (fun h => by simp at h) (by omega)
                  simpa using this
          · rw [hse2] at hse
            injection hse with e1 e2 e3
            omega
        · -- all is copied
          obtain ⟨w', v', o', sz, h1, hstl, h2, h3, h4⟩ := grow _ olda n ho2 ho1 holdlen ho3 hcap q2 q3 q4
          have hle := Fi.le_put φ H.next w.heap.size 0 sz hn
          split at hq
          · simp at hq; obtain ⟨rfl, rfl⟩ := hq
            refine ⟨_, w', v', Grow.put _ _ _ _ _ _ (by simp [Heap.alloc]), ?_, hstl, h1, h3⟩
            rw [h2]; exact hv.alloc h4
          · split at hq
            · simp at hq
            · rename_i hro
              simp at hq; obtain ⟨rfl, rfl⟩ := hq
              refine ⟨_, w', v', Grow.put _ _ _ _ _ _ (by simp [Heap.alloc, Heap.set]), ?_, hstl, h1, h3⟩
              rw [h2]
              have hk := hv.kill (i := i') (by rw [hg]; simpa [Obj.rw] using hro)
              exact hk.alloc h4
      · simp at hq
    · simp at hq
  · simp at hq

theorem isSl_of {s : V} (h : isSl s = true) {s' : Value} (r : VR φ s s') : ∃ base n c, s' = .slice base n c ∧ n ≤ c ∧ (base = none → n = 0) ∧ (∀ ad, base = some ad → ad.spot = none) := by
  cases s <;> simp [isSl] at h
  · rw [r.of_nils]; exact ⟨none, 0, 0, rfl, Nat.le_refl _, fun _ => rfl, fun ad h => by simp at h⟩
  · rcases r.of_sl with ⟨b, d, sz, c, _, h1, _, _, rfl⟩ | ⟨rfl, ad, hsp, rfl⟩
    · exact ⟨_, _, _, rfl, h1, fun h => by simp at h, fun ad h => by injection h with h; subst h; rfl⟩
    · exact ⟨_, _, _, rfl, Nat.le_refl _, fun h => by simp at h, fun ad' h => by injection h with h; subst h; exact hsp⟩

theorem store_none (ad : Addr) (w : World) : (storeCells ad []).run P w = .ok () w := rfl

/-- Nothing comes: the slice itself. -/
theorem appTail_same {elem : TypeId} {size sLen sCap : Nat} {zeros : Prop} [Decidable zeros] {base : Option Addr} {s x : Value} {appended : Sem (Array Value)} (hl : sLen ≤ sCap)
    (hnew : appended.run P w = .ok #[] w) : (appTail elem size sLen sCap 0 zeros base s x appended).run P w = .ok (.slice base sLen sCap) w := by
  simp only [appTail, Nat.add_zero, if_pos hl, Sem.run_bind, hnew, Result.andThen_ok]
  cases base with
  | none => rfl
  | some ad => rfl

theorem arr_nil {arr : Array Value} {l : List V} (h : VRs φ l arr.toList) (hl : l.length = 0) : arr = #[] := by
  have := h.1; simp at this
  exact Array.eq_empty_of_size_eq_zero (by omega)

theorem l_app {s0 x0 : Operand} {s1 x1 : EO} {el t u : TypeId} {xt : TypeDesc} {i : TypeInfo} {z : List V} {argTypes : Array TypeId} {ty : TypeId} (hv : Inv A φ H w.heap) (hs : VR φ (ev fr s1) (a.eval s0)) (hx : VR φ (ev fr x1) (a.eval x0))
    (ht1a : argTypes[0]? = some t) (ht1b : P.underlying t = some (.slice el)) (ht2a : argTypes[1]? = some u) (ht2b : P.underlying u = some xt) (hnint : ∀ k, xt ≠ .int k) (h3 : P.info? el = some i) (h4 : zeroCs P el = some z)
    (hq : appA i.size i.bytes (ev fr s1) (ev fr x1) H = some (v, H')) : LGood A w φ H v H' ((do pure (Next.value (← Builtin.append_ argTypes ty #[a.eval s0, a.eval x0])) : Sem Next).run P w) := by
  simp only [appA] at hq
  split at hq
  · simp at hq
  · rename_i xs m hsrc
    obtain ⟨r1, r2, r3⟩ := src_read (P := P) hv hsrc hx
    have main : ∀ (base : Option Addr) (n cp : Nat), a.eval s0 = .slice base n cp →
        (Builtin.append_ argTypes ty #[a.eval s0, a.eval x0]).run P w = (appTail el i.size n cp m (false = true) base (a.eval s0) (a.eval x0) (Builtin.firstCells i.size m (a.eval x0))).run P w := by
      intro base n cp hse
      rw [hse]
      have step : (Builtin.append_ argTypes ty #[Value.slice base n cp, a.eval x0]).run P w = ((Builtin.lenOf (a.eval x0)).run P w).andThen fun m w2 => (appTail el i.size n cp m (false = true) base (.slice base n cp) (a.eval x0) (Builtin.firstCells i.size m (a.eval x0))).run P w2 := by
        have e0 : (#[Value.slice base n cp, a.eval x0] : Array Value)[0]? = some (Value.slice base n cp) := rfl
        have e1 : (#[Value.slice base n cp, a.eval x0] : Array Value)[1]? = some (a.eval x0) := rfl
        have hx1 : (match xt with | .int _ => true | _ => false : Bool) = false := by cases xt <;> first | (exact absurd rfl (hnint _)) | rfl
        simp only [Builtin.append_, ht1a, ht2a, e0, e1, Sem.run_bind, run_under ht1b, Result.andThen_ok, run_sizeOf' h3, run_under ht2b, Sem.run_pure]
        cases xt <;> first | (exact absurd rfl (hnint _)) | (rw [if_neg (show ¬ (false = true) by decide), Sem.run_bind]; rfl)
      rw [step, r1]; rfl
    split at hq
    · rename_i hm0
      subst hm0
      split at hq
      · rename_i hsl
        simp at hq; obtain ⟨rfl, rfl⟩ := hq
        obtain ⟨base, n, cp, hse, hnc, _, _⟩ := isSl_of hsl hs
        obtain ⟨arr, g1, g2⟩ := r3 0 (Nat.le_refl _)
        have := arr_nil g2 (by simp)
        subst this
        refine .sem (φ' := φ) (w' := w) (v' := .slice base n cp) ?_ (Grow.refl _ _) hv (by rw [← hse]; exact hs)
        rw [main base n cp hse]
        exact appTail_same hnc (g1 w rfl)
      · simp at hq
    · rename_i hm0
      have hsl : isSl (ev fr s1) = true := by
        unfold appC at hq
        split at hq <;> first | (simp at hq; done) | (rename_i e1; rw [e1]; rfl)
      obtain ⟨base, n, cp, hse, hnc, _, _⟩ := isSl_of hsl hs
      obtain ⟨arr, g1, g2⟩ := r3 m (Nat.le_refl _)
      rw [List.take_of_length_le (by omega)] at g2
      obtain ⟨φ', w', v', k1, k2, kst, k3, k4⟩ := appC_sound (x' := a.eval x0) (zeros := (false = true)) hv h3 h4 hs hse hm0 r2 g1 g2 hq
      refine .sem (φ' := φ') (w' := w') (v' := v') ?_ k1 k2 k4
      rw [main base n cp hse]; exact k3

end
end Go.Ev
