/- Each loud operation of the evaluator (but a call) is what the model does: the rest, and all in one theorem. -/
import Derived.Test.YtdalcnjdpfnjjaaGreatDoorEvM
set_option linter.unusedSimpArgs false
set_option linter.unusedVariables false
namespace Go.Ev
open Go

section
variable {P : Program} {w : World} {A : Around} {φ : Fi} {H H' : Heap} {nt : Nat} {fr : Fr} {a : Act} {pf : FuncId → Bool} {v : V} {e : EOp}

theorem wrap64_same {n : Int} (h0 : 0 ≤ n) (h1 : n < 2 ^ 62) : IntKind.i64.wrap n = n := by
  have : IntKind.i64.bits = 64 := rfl
  unfold IntKind.wrap
  simp only [this, IntKind.signed]
  have : n % 2 ^ 64 = n := Int.emod_eq_of_lt h0 (by omega)
  rw [this]
  simp; omega

theorem zero_all {elem : TypeId} {i : TypeInfo} {z : List V} (hi : P.info? elem = some i) (hz : zeroCs P elem = some z) (w : World) :
    ∃ zv : Value, (∀ w2, (zeroValue elem).run P w2 = .ok zv w2) ∧ (∀ φ : Fi, VRs φ z zv.cells.toList) ∧ zv.cells.size = i.size ∧ z.length = i.size ∧ 0 < i.size := by
  obtain ⟨zv, e1, e2, e3, e4, e5, _⟩ := run_zero hz w
  have hsz : P.cellsOf elem = i.size := by simp [Program.cellsOf, hi]
  refine ⟨zv, fun w2 => ?_, e2, by omega, by omega, by omega⟩
  obtain ⟨zv', f1, _⟩ := run_zero hz w2
  have : zv = zv' := by
    unfold zeroCs at hz
    cases hzz : i.zero with
    | none => simp [zeroValue, run_info hi, hzz] at e1
    | some q =>
      simp [zeroValue, run_info hi, hzz] at e1 f1
      rw [← e1, ← f1]
  rw [this]; exact f1

theorem l_appZ {s0 x0 : Operand} {s1 x1 : EO} {el t u : TypeId} {k0 : IntKind} {i : TypeInfo} {z : List V} {argTypes : Array TypeId} {ty : TypeId} (hv : Inv A φ H w.heap) (hs : VR φ (ev fr s1) (a.eval s0)) (hx : VR φ (ev fr x1) (a.eval x0))
    (ht1a : argTypes[0]? = some t) (ht1b : P.underlying t = some (.slice el)) (ht2a : argTypes[1]? = some u) (ht2b : P.underlying u = some (.int k0)) (h3 : P.info? el = some i) (h4 : zeroCs P el = some z)
    (hq : appZA i.size i.bytes z (ev fr s1) (ev fr x1) H = some (v, H')) : LGood A w φ H v H' ((do pure (Next.value (← Builtin.append_ argTypes ty #[a.eval s0, a.eval x0])) : Sem Next).run P w) := by
  unfold appZA at hq
  split at hq
  · rename_i k hk
    rw [hk] at hx
    split at hq
    · rename_i hcond
      obtain ⟨q1, q2, q3, q4⟩ := hcond
      obtain ⟨zv, z1, z2, z3, z4, z5⟩ := zero_all h3 h4 w
      have wk : IntKind.i64.wrap k = k := wrap64_same q1 (by omega)
      let appended : Sem (Array Value) := if (!true) = true then Builtin.firstCells i.size k.toNat (.int .i64 k) else if k.toNat * i.size = 0 then pure #[] else do pure (Builtin.zeroCells (← zeroValue el).cells k.toNat)
      have main : ∀ (base : Option Addr) (n cp : Nat), a.eval s0 = .slice base n cp → k * i.bytes ≤ 2 ^ 48 →
          (Builtin.append_ argTypes ty #[a.eval s0, a.eval x0]).run P w = (appTail el i.size n cp k.toNat True base (a.eval s0) (.int .i64 k) appended).run P w := by
        intro base n cp hse hkb
        rw [hse]
        have e0 : (#[Value.slice base n cp, a.eval x0] : Array Value)[0]? = some (Value.slice base n cp) := rfl
        have e1 : (#[Value.slice base n cp, a.eval x0] : Array Value)[1]? = some (a.eval x0) := rfl
        have c1 : ¬ k < 0 := by omega
        have c2 : ¬ k * i.bytes > 2 ^ 48 := by omega
        simp only [Builtin.append_, ht1a, ht2a, e0, e1, Sem.run_bind, run_under ht1b, Result.andThen_ok, run_sizeOf' h3, run_under ht2b, Sem.run_pure]
        rw [if_pos trivial]
        simp only [hx.of_int, asInt, asIntOf, Sem.run_bind, Sem.run_pure, Result.andThen_ok, wk]
        rw [if_neg c1]
        simp only [Sem.run_bind, run_info h3, Result.andThen_ok, Sem.run_pure]
        rw [if_neg c2]
        simp only [Sem.run_bind, run_info h3, Result.andThen_ok, Sem.run_pure]
        rfl
      split at hq
      · rename_i hk0
        subst hk0
        split at hq
        · rename_i hsl
          simp at hq; obtain ⟨rfl, rfl⟩ := hq
          obtain ⟨base, n, cp, hse, hnc, _, _⟩ := isSl_of hsl hs
          refine .sem (φ' := φ) (w' := w) (v' := .slice base n cp) ?_ (Grow.refl _ _) hv (by rw [← hse]; exact hs)
          rw [main base n cp hse (by simp)]
          refine appTail_same hnc ?_
          simp [appended]
        · simp at hq
      · rename_i hk0
        have hm0 : k.toNat ≠ 0 := by omega
        have hsl : isSl (ev fr s1) = true ∧ k.toNat * i.bytes ≤ 2 ^ 44 := by
          unfold appC at hq
          split at hq
          · rename_i e1; rw [e1]; split at hq
            · rename_i hc; exact ⟨rfl, hc.1⟩
            · simp at hq
          · rename_i i' o n es' f e1
            rw [e1]
            split at hq
            · split at hq
              · rename_i hc
                refine ⟨rfl, ?_⟩
                have := hc.2.2.1
                rw [Nat.add_mul] at this
                omega
              · simp at hq
            · simp at hq
          · simp at hq
        obtain ⟨hsl, hkb⟩ := hsl
        obtain ⟨base, n, cp, hse, hnc, _, _⟩ := isSl_of hsl hs
        have hkb' : k * i.bytes ≤ 2 ^ 48 := by
          have : ((k.toNat * i.bytes : Nat) : Int) ≤ 2 ^ 44 := by omega
          have e : ((k.toNat * i.bytes : Nat) : Int) = k * i.bytes := by rw [Int.natCast_mul]; congr 1; omega
          omega
        have hnz : ¬ k.toNat * i.size = 0 := by
          intro h
          rcases Nat.mul_eq_zero.1 h with h | h <;> omega
        have hap : ∀ w2 : World, w2.heap = w.heap → appended.run P w2 = .ok (Builtin.zeroCells zv.cells k.toNat) w2 := by
          intro w2 _
          simp only [appended]
          rw [if_neg (by decide), if_neg hnz]
          simp only [Sem.run_bind, z1, Result.andThen_ok, Sem.run_pure]
        have hrep : VRs φ (rep k.toNat z) (Builtin.zeroCells zv.cells k.toNat).toList := by
          unfold Builtin.zeroCells
          exact rep_zero (z2 φ) (by omega) k.toNat _ rfl
        obtain ⟨φ', w', v', k1, k2, kst, k3, k4⟩ := appC_sound (x' := .int .i64 k) (zeros := True) hv h3 h4 hs hse hm0 (by rw [rep_length, z4]) hap hrep hq
        refine .sem (φ' := φ') (w' := w') (v' := v') ?_ k1 k2 k4
        rw [main base n cp hse hkb']; exact k3
    · simp at hq
  · simp at hq

theorem run_copy {t el : TypeId} {i : TypeInfo} {argTypes : Array TypeId} {ty : TypeId} {base : Option Addr} {dn dc m : Nat} {sv : Value} {cells : Array Value} {w' : World} (ht1a : argTypes[0]? = some t) (ht1b : P.underlying t = some (.slice el)) (h3 : P.info? el = some i)
    (r1 : (Builtin.lenOf sv).run P w = .ok m w) (g1 : (Builtin.firstCells i.size (Nat.min m dn) sv).run P w = .ok cells w)
    (hst : match base with | none => w' = w | some ad => (storeCells ad cells.toList).run P w = .ok () w') :
    (Builtin.copy_ argTypes ty #[.slice base dn dc, sv]).run P w = .ok (goInt (Nat.min m dn)) w' := by
  have e0 : (#[Value.slice base dn dc, sv] : Array Value)[0]? = some (Value.slice base dn dc) := rfl
  have e1 : (#[Value.slice base dn dc, sv] : Array Value)[1]? = some sv := rfl
  simp only [Builtin.copy_, ht1a, e0, e1, Sem.run_bind, run_under ht1b, Result.andThen_ok, r1, run_sizeOf' h3, g1]
  cases base with
  | none => simp only at hst; subst hst; rfl
  | some ad => simp only at hst; simp only [Sem.run_bind, hst, Result.andThen_ok, Sem.run_pure]

theorem l_copy {d0 s0 : Operand} {d1 s1 : EO} {el t : TypeId} {i : TypeInfo} {argTypes : Array TypeId} {ty : TypeId} (hv : Inv A φ H w.heap) (hd : VR φ (ev fr d1) (a.eval d0)) (hs : VR φ (ev fr s1) (a.eval s0))
    (ht1a : argTypes[0]? = some t) (ht1b : P.underlying t = some (.slice el)) (h3 : P.info? el = some i)
    (hq : copyA i.size (ev fr d1) (ev fr s1) H = some (v, H')) : LGood A w φ H v H' ((do pure (Next.value (← Builtin.copy_ argTypes ty #[a.eval d0, a.eval s0])) : Sem Next).run P w) := by
  unfold copyA at hq
  split at hq
  · rename_i xs m hsrc hdd
    simp at hq; obtain ⟨rfl, rfl⟩ := hq
    rw [hdd] at hd
    obtain ⟨r1, r2, r3⟩ := src_read (P := P) hv hsrc hs
    obtain ⟨arr, g1, g2⟩ := r3 0 (Nat.zero_le _)
    refine .sem (φ' := φ) (w' := w) (v' := .int .i64 0) ?_ (Grow.refl _ _) hv (.int _ _)
    rw [hd.of_nils]
    have hm0 : Nat.min m 0 = 0 := Nat.min_zero m
    have := run_copy (ty := ty) (w' := w) (base := none) (dn := 0) (dc := 0) ht1a ht1b h3 (r1 w) (by rw [hm0]; exact g1 w rfl) rfl
    rw [hm0] at this
    simpa [goInt] using this
  · rename_i xs m i' o n es' f hsrc hdd
    split at hq
    · rename_i hes
      subst hes
      rw [hdd] at hd
      obtain ⟨r1, r2, r3⟩ := src_read (P := P) hv hsrc hs
      split at hq
      · rename_i hmn
        simp at hq; obtain ⟨rfl, rfl⟩ := hq
        obtain ⟨arr, g1, g2⟩ := r3 0 (Nat.zero_le _)
        have := arr_nil g2 (by simp)
        subst this
        have hmin : Nat.min m n = 0 := by
          rcases hmn with h | h <;> subst h
          · exact Nat.zero_min n
          · exact Nat.min_zero m
        refine .sem (φ' := φ) (w' := w) (v' := .int .i64 0) ?_ (Grow.refl _ _) hv (.int _ _)
        have hse : ∃ ad c, a.eval d0 = .slice (some ad) n c := by
          rcases hd.of_sl with ⟨b, d, sz, c, _, _, _, _, h⟩ | ⟨rfl, ad, _, h⟩
          · exact ⟨_, _, h⟩
          · exact ⟨_, _, h⟩
        obtain ⟨ad, c, hse⟩ := hse
        rw [hse]
        have := run_copy (ty := ty) (w' := w) (base := some ad) (dn := n) (dc := c) ht1a ht1b h3 (r1 w) (by rw [hmin]; exact g1 w rfl) rfl
        rw [hmin] at this
        simpa [goInt] using this
      · rename_i hmn
        obtain ⟨H2, hst, h⟩ := map_some hq
        simp at h; obtain ⟨rfl, rfl⟩ := h
        have hmin : min m n ≤ m := Nat.min_le_left _ _
        obtain ⟨arr, g1, g2⟩ := r3 (min m n) hmin
        rcases hd.of_sl with ⟨b, d, sz, c, hφ, h1, h2, h3', hse⟩ | ⟨hn0, _⟩
        · obtain ⟨hl, w', hrun, hstl, hinv⟩ := hv.write (P := P) hst g2 hφ
          refine .sem (φ' := φ) (w' := w') (v' := .int .i64 ((min m n : Nat) : Int)) ?_ ⟨store_next hst, fun _ _ => rfl⟩ hinv (.int _ _)
          rw [hse]
          exact run_copy (ty := ty) (w' := w') (dn := n) (dc := c) ht1a ht1b h3 (r1 w) (g1 w rfl) hrun
        · omega
    · simp at hq
  · simp at hq

theorem l_clear {x0 : Operand} {x1 : EO} {el t : TypeId} {z : List V} {i : TypeInfo} {argTypes : Array TypeId} {ty : TypeId} (hv : Inv A φ H w.heap) (hx : VR φ (ev fr x1) (a.eval x0))
    (ht1a : argTypes[0]? = some t) (ht1b : P.underlying t = some (.slice el)) (h3 : P.info? el = some i) (h4 : zeroCs P el = some z)
    (hq : clrA i.size z (ev fr x1) H = some (v, H')) : LGood A w φ H v H' ((do pure (Next.value (← Builtin.clear_ argTypes ty #[a.eval x0])) : Sem Next).run P w) := by
  unfold clrA at hq
  split at hq
  · rename_i hxx
    simp at hq; obtain ⟨rfl, rfl⟩ := hq
    rw [hxx] at hx
    refine .sem (φ' := φ) (w' := w) (v' := .tuple #[]) ?_ (Grow.refl _ _) hv VR.undef
    rw [hx.of_nils]
    have e0 : (#[Value.slice none 0 0] : Array Value)[0]? = some (Value.slice none 0 0) := rfl
    simp only [Builtin.clear_, ht1a, e0, Sem.run_bind, run_under ht1b, Result.andThen_ok]
    rfl
  · rename_i i' o n es' f hxx
    split at hq
    · rename_i hes
      subst hes
      rw [hxx] at hx
      split at hq
      · rename_i hn0
        simp at hq; obtain ⟨rfl, rfl⟩ := hq
        refine .sem (φ' := φ) (w' := w) (v' := .tuple #[]) ?_ (Grow.refl _ _) hv VR.undef
        have hse : ∃ ad c, a.eval x0 = .slice (some ad) 0 c := by
          rcases hx.of_sl with ⟨b, d, sz, c, _, _, _, _, h⟩ | ⟨_, ad, _, h⟩
          · rw [hn0] at h; exact ⟨_, _, h⟩
          · exact ⟨_, _, h⟩
        obtain ⟨ad, c, hse⟩ := hse
        rw [hse]
        have e0 : (#[Value.slice (some ad) 0 c] : Array Value)[0]? = some (Value.slice (some ad) 0 c) := rfl
        simp only [Builtin.clear_, ht1a, e0, Sem.run_bind, run_under ht1b, Result.andThen_ok]
        rfl
      · rename_i hn0
        obtain ⟨H2, hst, h⟩ := map_some hq
        simp at h; obtain ⟨rfl, rfl⟩ := h
        obtain ⟨zv, z1, z2, z3, z4, z5⟩ := zero_all h3 h4 w
        have hrep : VRs φ (rep n z) (Builtin.zeroCells zv.cells n).toList := by
          unfold Builtin.zeroCells
          exact rep_zero (z2 φ) (by omega) n _ rfl
        rcases hx.of_sl with ⟨b, d, sz, c, hφ, h1, h2, h3', hse⟩ | ⟨hn0', _⟩
        · obtain ⟨hl, w', hrun, hstl, hinv⟩ := hv.write (P := P) hst hrep hφ
          refine .sem (φ' := φ) (w' := w') (v' := .tuple #[]) ?_ ⟨store_next hst, fun _ _ => rfl⟩ hinv VR.undef
          obtain ⟨n, rfl⟩ : ∃ k, n = k + 1 := ⟨n - 1, by omega⟩
          rw [hse]
          have e0 : (#[Value.slice (some ⟨b, d + o, none⟩) (n + 1) c] : Array Value)[0]? = some (Value.slice (some ⟨b, d + o, none⟩) (n + 1) c) := rfl
          simp only [Builtin.clear_, ht1a, e0, Sem.run_bind, run_under ht1b, Result.andThen_ok, z1, hrun, Sem.run_pure]
        · omega
    · simp at hq
  · simp at hq

theorem l_cvLL {s el : TypeId} {x : Operand} {x' : EO} (hv : Inv A φ H w.heap) (h1 : P.underlying s = some (.slice el)) (h3 : P.underlying el = some (.int .u8)) (hx : VR φ (ev fr x') (a.eval x))
    (hq : cvLLA (ev fr x') H = some (v, H')) : LGood A w φ H v H' ((do pure (Next.value (← convert s s (a.eval x))) : Sem Next).run P w) := by
  unfold cvLLA at hq
  split at hq
  · rename_i i o n es f hxx
    split at hq
    · rename_i cs hg
      split at hq
      · rename_i hn
        simp at hq; obtain ⟨rfl, rfl⟩ := hq
        rw [hxx] at hx
        rcases hx.of_sl with ⟨b, d, sz, c, hφ, g1, g2, g3, hse⟩ | ⟨hn0, _⟩
        · obtain ⟨arr, ty, lo, hi, k1, k2, k3, k4, k5⟩ := hv.cells hg hφ
          have hsh : w.shape? b = some (ty, arr.size) := by simp [World.shape?, k1]
          refine .sem (φ' := φ) (w' := w.freeze ⟨b, arr.size, none⟩ 1) (v' := a.eval x) ?_ (Grow.refl _ _) ?_ hx
          · simp only [convert, Sem.run_bind, run_under h1, run_under h3, Result.andThen_ok, hse, beq_self_eq_true]
            simp only [Sem.run_bind, markStringish, run_shape, hsh, Result.andThen_ok, run_freeze, Sem.run_pure]
          · obtain ⟨lo2, hi2, hpair, hlo2⟩ : ∃ lo2 hi2 : Nat, (if lo == hi then (arr.size, arr.size + 1) else (min lo arr.size, max hi (arr.size + 1))) = (lo2, hi2) ∧ arr.size ≤ lo2 := by
              by_cases hlh : lo = hi
              · exact ⟨arr.size, arr.size + 1, by simp [hlh], Nat.le_refl _⟩
              · have h5 := k5 rfl
                exact ⟨min lo arr.size, max hi (arr.size + 1), by simp [hlh], by omega⟩
            have hfz : (w.freeze ⟨b, arr.size, none⟩ 1).heap = w.heap.setIfInBounds b (.cells arr ty (lo2, hi2)) := by
              unfold World.freeze
              simp only [Nat.one_ne_zero, if_false]
              rw [heap_modify _ k1]
              simp only [hpair]
            rw [hfz]
            have hinv := hv.turn (ob := .cells false cs) (o' := .cells arr ty (lo2, hi2)) (by rw [hg]; rfl) rfl hφ k1
              ⟨arr, ty, _, _, rfl, k2, k3, k4, fun _ => .inr hlo2⟩
            -- the heap of the evaluator says the same
            have same : ∀ j, (H.set i (.cells false cs)).get j = H.get j := fun j => by
              rw [Heap.get_set]; split
              · rename_i h; rw [← h, hg]
              · rfl
            exact { leB := hinv.leB, bnd := hinv.bnd, obj := fun j hl => by have := hinv.obj j (by rw [same]; exact hl); rwa [same] at this,
                    sep := fun j k b d s d' s' h1 h2 => hinv.sep j k b d s d' s' (by rw [same]; exact h1) (by rw [same]; exact h2),
                    frn := hinv.frn, sepF := fun j b d s h => hinv.sepF j b d s (by rw [same]; exact h), old := hinv.old,
                    rwB := fun j b d s h => hinv.rwB j b d s (by rw [same]; exact h), glb := fun g hg' => by have := hinv.glb g hg'; rwa [same] at this }
        · omega
      · simp at hq
    · simp at hq
  · simp at hq

theorem l_next {it : Operand} {it' : EO} {ty : TypeId} (hv : Inv A φ H w.heap) (hx : VR φ (ev fr it') (a.eval it)) (hq : nextA (ev fr it') H = some (v, H')) :
    LGood A w φ H v H' ((do pure (Next.value (← Instr.next (a.eval it) true ty)) : Sem Next).run P w) := by
  unfold nextA at hq
  split at hq
  · rename_i r hxx
    split at hq
    · rename_i s pos hg
      rw [hxx] at hx
      obtain ⟨b, d, sz, hφ, hse⟩ := hx.of_ptr
      obtain ⟨b', d', sz', o, q1, q2, q3⟩ := hv.obj r (by rw [hg]; rfl)
      rw [hφ] at q1; simp at q1
      obtain ⟨rfl, rfl, rfl⟩ := q1
      rw [hg] at q3
      obtain ⟨rfl, bs, rfl, rfl⟩ := q3
      have hget : (getObj b).run P w = .ok (.stringIter bs pos) w := by simp [getObj, Sem.run, q2]
      simp at hse
      split at hq
      · rename_i hlt
        simp at hq; obtain ⟨rfl, rfl⟩ := hq
        rw [ofBytes_size] at hlt
        have hset : (setObj b (.stringIter bs (pos + (Utf8.decode bs pos).2))).run P w = .ok () { w with heap := w.heap.setIfInBounds b (.stringIter bs (pos + (Utf8.decode bs pos).2)) } := by
          simp [setObj, Sem.run, q2]
        refine .sem (φ' := φ) (w' := { w with heap := w.heap.setIfInBounds b (.stringIter bs (pos + (Utf8.decode bs pos).2)) }) (v' := .tuple #[.bool true, .int .i64 (pos : Int), .int .i32 ((Utf8.decode bs pos).1 : Int)]) ?_ ⟨Nat.le_refl _, fun _ _ => rfl⟩ ?_ ?_
        · rw [hse]
          simp only [Instr.next, Sem.run_bind, hget, Result.andThen_ok, if_pos hlt, hset, Sem.run_pure, goInt]
        · rw [toBytes_ofBytes]
          exact hv.turn (by rw [hg]; rfl) rfl hφ q2 ⟨rfl, bs, rfl, rfl⟩
        · rw [toBytes_ofBytes]
          exact .tup' (.cons (.bool _) (.cons (.int _ _) (.cons (.int _ _) (.nil _))))
      · rename_i hlt
        simp at hq; obtain ⟨rfl, rfl⟩ := hq
        rw [ofBytes_size] at hlt
        refine .sem (φ' := φ) (w' := w) (v' := .tuple #[.bool false]) ?_ (Grow.refl _ _) hv (.tup' (.cons (.bool _) (.nil _)))
        rw [hse]
        simp only [Instr.next, Sem.run_bind, hget, Result.andThen_ok, if_neg hlt, Sem.run_pure]
    · simp at hq
  · simp at hq

end
end Go.Ev
