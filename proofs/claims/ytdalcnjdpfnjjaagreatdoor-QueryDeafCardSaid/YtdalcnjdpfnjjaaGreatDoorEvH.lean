/- Each quiet operation of the evaluator is what the model does: operators, conversions, cuts, indexes. -/
import Derived.Test.YtdalcnjdpfnjjaaGreatDoorEvG
set_option linter.unusedSimpArgs false
set_option linter.unusedVariables false
namespace Go.Ev
open Go

section
variable {P : Program} {w : World} {A : Around} {φ : Fi} {H : Heap} {nt : Nat} {fr : Fr} {a : Act} {nid : Nat} {pf : FuncId → Bool} {v : V} {ob : Option Obj} {e : EOp}

theorem guard_plain {op : BinOp} {t : TypeId} {x y : Operand} {p q : Value} (h : ∀ cs ds, ¬ (p = .agg cs ∧ q = .agg ds)) (h' : ¬ (p = .nilIface ∧ q = .nilIface)) :
    (eqGuard op t x y p q).run P w = .ok () w := by
  unfold eqGuard
  cases op <;> try rfl
  all_goals
    cases p <;> cases q <;> first | rfl | exact absurd ⟨rfl, rfl⟩ h' | exact absurd ⟨rfl, rfl⟩ (h _ _)

theorem q_ibin {op : BinOp} {t : TypeId} {x y : Operand} {x' y' : EO} (hx : VR φ (ev fr x') (a.eval x)) (hy : VR φ (ev fr y') (a.eval y)) (hq : qop (.ibin op x' y') fr H nid = some (v, ob)) :
    QGood φ w nid v ob ((do pure (Next.value (← (do eqGuard op t x y (a.eval x) (a.eval y); binOp op t (a.eval x) (a.eval y)))) : Sem Next).run P w) := by
  have key : ∀ (k l : IntKind) (m n : Int), a.eval x = .int k m → a.eval y = .int l n → (∃ v', (binOp op t (.int k m) (.int l n)).run P w = .ok v' w ∧ VR φ v v') → ob = none →
      QGood φ w nid v ob ((do pure (Next.value (← (do eqGuard op t x y (a.eval x) (a.eval y); binOp op t (a.eval x) (a.eval y)))) : Sem Next).run P w) := by
    intro k l m n h1 h2 ⟨v', h3, h4⟩ h5
    subst h5
    refine .sem (v' := v') ?_ h4
    rw [h1, h2]
    rw [Sem.run_bind, guard_plain (fun cs ds h => by simp at h) (fun h => by simp at h)]
    exact h3
  simp only [qop] at hq
  split at hq
  · rename_i k m l n e1 e2
    rw [e1] at hx; rw [e2] at hy
    obtain ⟨r, hr, h⟩ := map_some hq
    simp at h; obtain ⟨rfl, rfl⟩ := h
    exact key k l m n hx.of_int hy.of_int (shift_op t (.inl rfl) hr w) rfl
  · rename_i k m l n e1 e2
    rw [e1] at hx; rw [e2] at hy
    obtain ⟨r, hr, h⟩ := map_some hq
    simp at h; obtain ⟨rfl, rfl⟩ := h
    exact key k l m n hx.of_int hy.of_int (shift_op t (.inr rfl) hr w) rfl
  · rename_i op' k m l n e1 e2 h1 h2
    split at hq
    · rename_i hkl
      subst hkl
      rw [h1] at hx; rw [h2] at hy
      obtain ⟨r, hr, h⟩ := map_some hq
      simp at h; obtain ⟨rfl, rfl⟩ := h
      exact key k k m n hx.of_int hy.of_int (int_op t e1 e2 hr w) rfl
    · simp at hq
  · simp at hq

theorem q_sbin {op : BinOp} {t : TypeId} {x y : Operand} {x' y' : EO} (hx : VR φ (ev fr x') (a.eval x)) (hy : VR φ (ev fr y') (a.eval y)) (hq : qop (.sbin op x' y') fr H nid = some (v, ob)) :
    QGood φ w nid v ob ((do pure (Next.value (← (do eqGuard op t x y (a.eval x) (a.eval y); binOp op t (a.eval x) (a.eval y)))) : Sem Next).run P w) := by
  simp only [qop] at hq
  split at hq
  · rename_i s s' e1 e2
    rw [e1] at hx; rw [e2] at hy
    obtain ⟨bs, h1, rfl⟩ := hx.of_str
    obtain ⟨bs', h2, rfl⟩ := hy.of_str
    obtain ⟨r, hr, h⟩ := map_some hq
    simp at h; obtain ⟨rfl, rfl⟩ := h
    obtain ⟨v', h3, h4⟩ := str_op (φ := φ) hr w
    refine .sem (v' := v') ?_ h4
    rw [h1, h2, Sem.run_bind, guard_plain (fun cs ds h => by simp at h) (fun h => by simp at h)]
    have : binOp op t (.string bs) (.string bs') = Op.stringOp op bs bs' := by cases op <;> rfl
    rw [this]; exact h3
  · simp at hq

theorem run_eq {t : TypeId} {x y : Value} {b : Bool} (h : (Op.equalIn 10000 t x y).run P w = .ok b w) (hb : binOp .eql t x y = (do pure (.bool (← Op.equal t x y)))) : (binOp .eql t x y).run P w = .ok (.bool b) w := by
  rw [hb]; simp [Op.equal, Op.maxDepth, h]
theorem run_ne {t : TypeId} {x y : Value} {b : Bool} (h : (Op.equalIn 10000 t x y).run P w = .ok b w) (hb : binOp .neq t x y = (do pure (.bool (!(← Op.equal t x y))))) : (binOp .neq t x y).run P w = .ok (.bool (!b)) w := by
  rw [hb]; simp [Op.equal, Op.maxDepth, h]

theorem q_beq {op : BinOp} {neg : Bool} (hop : op = if neg then .neq else .eql) {t : TypeId} {x y : Operand} {x' y' : EO} (hu : P.underlying t = some .bool) (hx : VR φ (ev fr x') (a.eval x)) (hy : VR φ (ev fr y') (a.eval y))
    (hq : qop (.beq neg x' y') fr H nid = some (v, ob)) :
    QGood φ w nid v ob ((do pure (Next.value (← (do eqGuard op t x y (a.eval x) (a.eval y); binOp op t (a.eval x) (a.eval y)))) : Sem Next).run P w) := by
  simp only [qop] at hq
  split at hq
  · rename_i p q e1 e2
    rw [e1] at hx; rw [e2] at hy
    simp at hq; obtain ⟨rfl, rfl⟩ := hq
    have he := run_equalIn_bool (P := P) w 9999 t p q hu
    refine .sem (v' := .bool (if neg then !(p == q) else (p == q))) ?_ ?_
    · rw [hx.of_bool, hy.of_bool, Sem.run_bind, guard_plain (fun cs ds h => by simp at h) (fun h => by simp at h), Result.andThen_ok]
      cases neg with
      | true => simp at hop; subst hop; exact run_ne he rfl
      | false => simp at hop; subst hop; exact run_eq he rfl
    · exact .bool _
  · simp at hq

theorem q_nil {op : BinOp} {neg : Bool} (hop : op = if neg then .neq else .eql) {t : TypeId} {x y : Operand} {b : Bool} {x' y' : Value} (hx : a.eval x = x') (hy : a.eval y = y')
    (h1 : ∀ cs ds, ¬ (x' = .agg cs ∧ y' = .agg ds)) (h2 : ¬ (x' = .nilIface ∧ y' = .nilIface)) (he : (Op.equalIn 10000 t x' y').run P w = .ok b w)
    (hb : binOp .eql t x' y' = (do pure (.bool (← Op.equal t x' y')))) (hb' : binOp .neq t x' y' = (do pure (.bool (!(← Op.equal t x' y'))))) :
    QGood φ w nid (neg? neg b) none ((do pure (Next.value (← (do eqGuard op t x y (a.eval x) (a.eval y); binOp op t (a.eval x) (a.eval y)))) : Sem Next).run P w) := by
  refine .sem (v' := .bool (if neg then !b else b)) ?_ (.bool _)
  rw [hx, hy, Sem.run_bind, guard_plain h1 h2, Result.andThen_ok]
  cases neg with
  | true => simp at hop; subst hop; exact run_ne he hb'
  | false => simp at hop; subst hop; exact run_eq he hb

theorem en_p1 {t el : TypeId} (d : Nat) (b : Option Addr) (hu : P.underlying t = some (.pointer el)) : (Op.equalIn (d + 1) t (.pointer none) (.pointer b)).run P w = .ok b.isNone w := by
  simp only [Op.equalIn, Sem.run_bind, run_under hu, Result.andThen_ok]; rfl
theorem en_p2 {t el : TypeId} (d : Nat) (b : Addr) (hu : P.underlying t = some (.pointer el)) : (Op.equalIn (d + 1) t (.pointer (some b)) (.pointer none)).run P w = .ok false w := by
  simp only [Op.equalIn, Sem.run_bind, run_under hu, Result.andThen_ok]; rfl
theorem en_s1 {t el : TypeId} (d n c m k : Nat) (b : Option Addr) (hu : P.underlying t = some (.slice el)) : (Op.equalIn (d + 1) t (.slice none n c) (.slice b m k)).run P w = .ok b.isNone w := by
  simp only [Op.equalIn, Sem.run_bind, run_under hu, Result.andThen_ok]; rfl
theorem en_s2 {t el : TypeId} (d n c m k : Nat) (b : Addr) (hu : P.underlying t = some (.slice el)) : (Op.equalIn (d + 1) t (.slice (some b) n c) (.slice none m k)).run P w = .ok false w := by
  simp only [Op.equalIn, Sem.run_bind, run_under hu, Result.andThen_ok]; rfl
theorem en_f0 {t : TypeId} {p q : Array TypeId} {r : Bool} (d : Nat) (hu : P.underlying t = some (.func p q r)) : (Op.equalIn (d + 1) t .nilFunc .nilFunc).run P w = .ok true w := by
  simp only [Op.equalIn, Sem.run_bind, run_under hu, Result.andThen_ok]; rfl
theorem en_f1 {t : TypeId} {p q : Array TypeId} {r : Bool} (d : Nat) (f : Fn) (c e : Array Value) (hu : P.underlying t = some (.func p q r)) : (Op.equalIn (d + 1) t .nilFunc (.func f c e)).run P w = .ok false w := by
  simp only [Op.equalIn, Sem.run_bind, run_under hu, Result.andThen_ok]; rfl
theorem en_f2 {t : TypeId} {p q : Array TypeId} {r : Bool} (d : Nat) (f : Fn) (c e : Array Value) (hu : P.underlying t = some (.func p q r)) : (Op.equalIn (d + 1) t (.func f c e) .nilFunc).run P w = .ok false w := by
  simp only [Op.equalIn, Sem.run_bind, run_under hu, Result.andThen_ok]; rfl

theorem q_neq0 {op : BinOp} {neg : Bool} {kd : Nat} (hop : op = if neg then .neq else .eql) {t : TypeId} {x y : Operand} {x' y' : EO}
    (hu : (kd = 0 ∧ ∃ el, P.underlying t = some (.pointer el)) ∨ (kd = 1 ∧ ∃ el, P.underlying t = some (.slice el)) ∨ (kd = 2 ∧ ∃ p q r, P.underlying t = some (.func p q r))) (hx : VR φ (ev fr x') (a.eval x)) (hy : VR φ (ev fr y') (a.eval y))
    (hq : qop (.neq0 neg kd x' y') fr H nid = some (v, ob)) :
    QGood φ w nid v ob ((do pure (Next.value (← (do eqGuard op t x y (a.eval x) (a.eval y); binOp op t (a.eval x) (a.eval y)))) : Sem Next).run P w) := by
  have nn : ∀ z : Value, VR φ .nilp z → z = .pointer none := fun z h => by cases h; rfl
  have nf : ∀ z : Value, VR φ .nilFn z → z = .nilFunc := fun z h => by cases h; rfl
  have ns : ∀ (i o n es : Nat) (f : Bool) (z : Value), VR φ (.sl i o n es f) z → ∃ a n c, z = .slice (some a) n c := fun i o n es f z h => by
    rcases h.of_sl with ⟨b, d, sz, c, _, _, _, _, rfl⟩ | ⟨_, a, _, rfl⟩
    · exact ⟨_, _, _, rfl⟩
    · exact ⟨_, _, _, rfl⟩
  have np : ∀ (i o : Nat) (z : Value), VR φ (.ptr i o) z → ∃ a, z = .pointer (some a) := fun i o z h => by obtain ⟨b, d, sz, _, rfl⟩ := h.of_ptr; exact ⟨_, rfl⟩
  have nfn : ∀ (f : FuncId) (c d : List V) (z : Value), VR φ (.fn f c d) z → ∃ f c d, z = .func f c d := fun f c d z h => by obtain ⟨c', d', rfl, _⟩ := h.of_fn; exact ⟨_, _, _, rfl⟩
  simp only [qop] at hq
  split at hq <;> first | (simp at hq; done) | skip
  all_goals
    rename_i e1 e2
    rw [e1] at hx; rw [e2] at hy
    simp at hq; obtain ⟨rfl, rfl⟩ := hq
    rcases hu with ⟨hk, el, hu⟩ | ⟨hk, el, hu⟩ | ⟨hk, p, q, r, hu⟩ <;> first | (exact absurd hk (by decide)) | skip
  · exact q_nil hop (nn _ hx) (nn _ hy) (fun cs ds h => by simp at h) (fun h => by simp at h) (en_p1 9999 none hu) rfl rfl
  · obtain ⟨z, hz⟩ := np _ _ _ hy
    exact q_nil hop (nn _ hx) hz (fun cs ds h => by simp at h) (fun h => by simp at h) (en_p1 9999 (some z) hu) rfl rfl
  · obtain ⟨z, hz⟩ := np _ _ _ hx
    exact q_nil hop hz (nn _ hy) (fun cs ds h => by simp at h) (fun h => by simp at h) (en_p2 9999 z hu) rfl rfl
  · exact q_nil hop hx.of_nils hy.of_nils (fun cs ds h => by simp at h) (fun h => by simp at h) (en_s1 9999 0 0 0 0 none hu) rfl rfl
  · obtain ⟨z, m, c, hz⟩ := ns _ _ _ _ _ _ hy
    exact q_nil hop hx.of_nils hz (fun cs ds h => by simp at h) (fun h => by simp at h) (en_s1 9999 0 0 m c (some z) hu) rfl rfl
  · obtain ⟨z, m, c, hz⟩ := ns _ _ _ _ _ _ hx
    exact q_nil hop hz hy.of_nils (fun cs ds h => by simp at h) (fun h => by simp at h) (en_s2 9999 m c 0 0 z hu) rfl rfl
  · exact q_nil hop (nf _ hx) (nf _ hy) (fun cs ds h => by simp at h) (fun h => by simp at h) (en_f0 9999 hu) rfl rfl
  · obtain ⟨f, m, c, hz⟩ := nfn _ _ _ _ hy
    exact q_nil hop (nf _ hx) hz (fun cs ds h => by simp at h) (fun h => by simp at h) (en_f1 9999 f m c hu) rfl rfl
  · obtain ⟨f, m, c, hz⟩ := nfn _ _ _ _ hx
    exact q_nil hop hz (nf _ hy) (fun cs ds h => by simp at h) (fun h => by simp at h) (en_f2 9999 f m c hu) rfl rfl

theorem q_aeq {op : BinOp} {neg : Bool} {ks : List Nat} (hop : op = if neg then .neq else .eql) {t : TypeId} {x y : Operand} {x' y' : EO} (hk : leafKs P 20 t = some ks) (hs : ∃ fs, P.underlying t = some (.struct fs))
    (hgt : P.eqGuardType P.depth t = false) (hx : VR φ (ev fr x') (a.eval x)) (hy : VR φ (ev fr y') (a.eval y)) (hq : qop (.aeq neg ks x' y') fr H nid = some (v, ob)) :
    QGood φ w nid v ob ((do pure (Next.value (← (do eqGuard op t x y (a.eval x) (a.eval y); binOp op t (a.eval x) (a.eval y)))) : Sem Next).run P w) := by
  simp only [qop] at hq
  split at hq
  · rename_i cs ds e1 e2
    split at hq
    case isFalse => simp at hq
    rename_i hl
    rw [e1] at hx; rw [e2] at hy
    obtain ⟨r, hr, h⟩ := map_some hq
    simp at h; obtain ⟨rfl, rfl⟩ := h
    obtain ⟨xs, hxe, hxs⟩ := hx.of_agg
    obtain ⟨ys, hye, hys⟩ := hy.of_agg
    rcases leafOk (P := P) 20 t ks hk with ⟨fs, hu, hall⟩ | ⟨hu, _, _⟩
    · refine .sem (v' := .bool (if neg then !r else r)) ?_ (.bool _)
      rw [hxe, hye, Sem.run_bind, run_eqGuard_agg w op t x y xs ys hgt, Result.andThen_ok]
      have he := hall φ w 10000 cs ds xs ys r (by omega) hl.1 hl.2 hxs hys hr
      cases neg with
      | true => simp at hop; subst hop; exact run_ne he rfl
      | false => simp at hop; subst hop; exact run_eq he rfl
    · obtain ⟨fs, hs⟩ := hs
      rcases hu with h | ⟨k, h⟩ | h <;> rw [hs] at h <;> simp at h
  · simp at hq

theorem q_binop {op : BinOp} {t yt : TypeId} {x y : Operand} (hc : compOp P pf (.binOp op t x y yt) = some e) (hg : GlobAt φ P.globals.size) (hf : FR φ nt fr a.tmps) (hq : qop e fr H nid = some (v, ob)) :
    QGood φ w nid v ob ((do pure (Next.value (← (do eqGuard op t x y (a.eval x) (a.eval y); binOp op t (a.eval x) (a.eval y)))) : Sem Next).run P w) := by
  simp only [compOp] at hc
  split at hc
  · rename_i x' y' h1 h2
    have hx := opnd_sound hg hf h1
    have hy := opnd_sound hg hf h2
    unfold binK at hc
    split at hc
    · injection hc with hc; subst hc; exact q_ibin hx hy hq
    · injection hc with hc; subst hc; exact q_sbin hx hy hq
    · rename_i hu
      split at hc <;> first | (simp at hc; done) | (injection hc with hc; subst hc; exact q_beq (by rfl) hu hx hy hq)
    · rename_i el hu
      split at hc <;> first | (simp at hc; done) | (injection hc with hc; subst hc; exact q_neq0 (by rfl) (.inl ⟨rfl, _, hu⟩) hx hy hq)
    · rename_i el hu
      split at hc <;> first | (simp at hc; done) | (injection hc with hc; subst hc; exact q_neq0 (by rfl) (.inr (.inl ⟨rfl, _, hu⟩)) hx hy hq)
    · rename_i p q r hu
      split at hc <;> first | (simp at hc; done) | (injection hc with hc; subst hc; exact q_neq0 (by rfl) (.inr (.inr ⟨rfl, _, _, _, hu⟩)) hx hy hq)
    · rename_i fs hu
      split at hc
      · rename_i ks hks
        split at hc
        · rename_i hgt
          split at hc <;> first | (simp at hc; done) | (injection hc with hc; subst hc; exact q_aeq (by rfl) hks ⟨fs, hu⟩ hgt hx hy hq)
        · simp at hc
      · simp at hc
    · simp at hc
  · simp at hc

end
end Go.Ev
