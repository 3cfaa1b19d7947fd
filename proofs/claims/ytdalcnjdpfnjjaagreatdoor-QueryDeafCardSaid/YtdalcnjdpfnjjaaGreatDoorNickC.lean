/- Names over this program: nick.May and the reference's MayNick answer 'mayN'. -/
import Derived.Test.YtdalcnjdpfnjjaaGreatDoorNickB
import Derived.Test.YtdalcnjdpfnjjaaGreatDoorStep
set_option linter.unusedSimpArgs false
set_option linter.unusedVariables false
namespace Go.Proofs.YtdalcnjdpfnjjaaGreatDoor
open Go Go.Ev Co
set_option maxRecDepth 100000
theorem kind60 {n : Nat} (h : 60 ≤ n) (r : Int) : pureA E1 (exec E1 n) 60 [.int .i32 r] = some (.int .i64 (kindN r)) := pcall_mono E1 h (kind_i32 r)
theorem kind59 {n : Nat} (h : 60 ≤ n) (r : Int) : pureA E1 (exec E1 n) 59 [.int .i64 r] = some (.int .i64 (kindN r)) := pcall_mono E1 h (kind_i64 r)

/-- The round of nick.May. -/
noncomputable def nb : EC := (s (o [p 7 (.next (t 6)), p 8 (.ext (t 7) 0)])
 (s (EC.cond (t 8) (EC.skip) (EC.exit 0))
 (EC.block 1 (s (o [p 9 (.ext (t 7) 2), p 4 (.mv (t 9))])
 (s (o [p 10 (.mv (t 4)), p 11 (.pcall 60 [(t 10)]), p 12 (.ibin .eql (t 11) (ii 0))])
 (EC.cond (t 12) (s (o [p 2 (.mv (.c (.bool false)))]) (EC.ret)) (EC.skip)))))))


theorem nb_end {fr : Fr} {H : Heap} (M : Nat) (h6 : fr.get 6 = some (.ptr 3 0)) (hn : nextA (.ptr 3 0) H = some (.tup [.bool false], H)) :
    exec E1 (M + 20) (.loop nb) fr H = some (.exit 0, (fr.set (.tup [.bool false]) 7).set (.bool false) 8, H) := by
  rw [ex_loop]
  unfold nb s o p t
  simp [ex_seq, ex_ops, ex_cond, ex_exit, ro_cons, ro_nil, EOp.loud, lop, qop', qop, ev_t, ev_c, putA_some, h6, hn, T.get_set]

theorem nb_next {fr : Fr} {H H' : Heap} {q r : Int} (M : Nat) (hM : 60 ≤ M) (h6 : fr.get 6 = some (.ptr 3 0)) (hn : nextA (.ptr 3 0) H = some (.tup [.bool true, .int .i64 q, .int .i32 r], H')) :
    exec E1 (M + 20) (.loop nb) fr H = if kindN r = 0 then some (.ret, (((((((fr.set (.tup [.bool true, .int .i64 q, .int .i32 r]) 7).set (.bool true) 8).set (.int .i32 r) 9).set (.int .i32 r) 4).set (.int .i32 r) 10).set (.int .i64 (kindN r)) 11).set (.bool true) 12).set (.bool false) 2, H')
      else exec E1 (M + 19) (.loop nb) (((((((fr.set (.tup [.bool true, .int .i64 q, .int .i32 r]) 7).set (.bool true) 8).set (.int .i32 r) 9).set (.int .i32 r) 4).set (.int .i32 r) 10).set (.int .i64 (kindN r)) 11).set (.bool false) 12) H' := by
  have hk : ∀ j, pureA E1 (exec E1 (M + j)) 60 [.int .i32 r] = some (.int .i64 (kindN r)) := fun j => kind60 (by omega) r
  rw [ex_loop]
  unfold nb s o p t ii
  by_cases h0 : kindN r = 0
  · simp [ex_seq, ex_ops, ex_cond, ex_exit, ex_block, ex_skip, ex_ret, ro_cons, ro_nil, EOp.loud, lop, qop', qop, ev_t, ev_c, putA_some, h6, hn, T.get_set, hk, h0, intOp]
  · simp [ex_seq, ex_ops, ex_cond, ex_exit, ex_block, ex_skip, ex_ret, ro_cons, ro_nil, EOp.loud, lop, qop', qop, ev_t, ev_c, putA_some, h6, hn, T.get_set, hk, h0, intOp]

theorem next_end {str : List Nat} {H : Heap} {pos : Nat} (h3 : H.get 3 = .sit str pos) (h : str.length ≤ pos) : nextA (.ptr 3 0) H = some (.tup [.bool false], H) := by
  simp only [nextA, h3]
  rw [if_neg (by omega)]
theorem next_go {str : List Nat} {H : Heap} {pos : Nat} (hb : ∀ x ∈ str, x < 256) (h3 : H.get 3 = .sit str pos) (h : pos < str.length) :
    nextA (.ptr 3 0) H = some (.tup [.bool true, .int .i64 (pos : Int), .int .i32 ((dp (dec (str.drop pos))).1 : Int)], H.set 3 (.sit str (pos + (dp (dec (str.drop pos))).2))) := by
  simp only [nextA, h3]
  rw [if_pos h, decode_dec str hb pos h]

theorem nick_loop (str : List Nat) (hb : ∀ x ∈ str, x < 256) : ∀ (k pos : Nat) (fr : Fr) (H : Heap) (N : Nat), str.length - pos ≤ k → pos ≤ str.length → k + 100 ≤ N →
    fr.get 0 = some (.str str) → fr.get 6 = some (.ptr 3 0) → H.get 3 = .sit str pos →
    ∃ fr' H', (mayT (str.drop pos) = true ∧ exec E1 N (.loop nb) fr H = some (.exit 0, fr', H') ∧ fr'.get 0 = some (.str str)) ∨
      (mayT (str.drop pos) = false ∧ exec E1 N (.loop nb) fr H = some (.ret, fr', H') ∧ fr'.get 2 = some (.bool false)) := by
  intro k
  induction k with
  | zero =>
    intro pos fr H N h1 h2 hN h0 h6 h3
    obtain ⟨M, rfl⟩ : ∃ M, N = M + 20 := ⟨N - 20, by omega⟩
    have hd : str.drop pos = [] := List.drop_eq_nil_of_le (by omega)
    exact ⟨_, _, .inl ⟨by rw [hd]; rfl, nb_end M h6 (next_end h3 (by omega)), by simp [T.get_set, h0]⟩⟩
  | succ k ih =>
    intro pos fr H N h1 h2 hN h0 h6 h3
    obtain ⟨M, rfl⟩ : ∃ M, N = M + 20 := ⟨N - 20, by omega⟩
    by_cases hp : pos < str.length
    · have ht : str.drop pos ≠ [] := by
        intro e
        have := congrArg List.length e
        simp at this; omega
      have hn := next_go hb h3 hp
      have hs := nb_next M (by omega) h6 hn
      cases hdec : dec (str.drop pos) with
      | none =>
        rw [hdec] at hs
        simp only [dp_none] at hs
        have hz : kindN ((65533 : Nat) : Int) = 0 := by decide
        exact ⟨_, _, .inr ⟨mayT_none ht hdec, hs.trans (if_pos hz), by simp [T.get_set]⟩⟩
      | some x =>
        obtain ⟨r, m⟩ := x
        have hpos := dec_pos hdec ht
        simp only [List.length_drop] at hpos
        rw [hdec] at hs
        simp only [dp_some] at hs
        rw [mayT_some ht hdec]
        by_cases hz : kindN (r : Int) = 0
        · exact ⟨_, _, .inr ⟨by rw [if_pos hz], hs.trans (if_pos hz), by simp [T.get_set]⟩⟩
        · rw [if_neg hz, hs.trans (if_neg hz), List.drop_drop]
          exact ih (pos + m) _ _ (M + 19) (by omega) (by omega) (by omega) (by simp [T.get_set, h0]) (by simp [T.get_set, h6]) (by simp [Heap.get_set])
    · have hd : str.drop pos = [] := List.drop_eq_nil_of_le (by omega)
      exact ⟨_, _, .inl ⟨by rw [hd]; rfl, nb_end M h6 (next_end h3 (by omega)), by simp [T.get_set, h0]⟩⟩

theorem fn45 : E1.fn 45 = some e45 := by kernel_rfl

theorem body45 : e45.body = .seq (.ops [p 2 (.mv (.c (.bool false)))]) (.seq (.seq (.ops [p 5 (.mv (t 0)), p 6 (.rngS (t 5))]) (.block 0 (.loop nb)))
  (.seq (.ops [p 13 (.mv (t 0)), p 14 (.lenS (t 13)), p 15 (.ibin .leq (t 14) (ii 20)), p 2 (.mv (t 15))]) .ret)) := rfl
theorem nick_may (str : List Nat) (hb : ∀ x ∈ str, x < 256) : pcall E1 (str.length + 200) 45 [.str str] = some (.bool (mayN str)) := by
  have hg : glob.get 3 = .dead := rfl
  have key : ∃ fr' H', exec E1 (str.length + 200) e45.body (mkFr [.str str] 0 .nil) glob = some (.ret, fr', H') ∧ fr'.get 2 = some (.bool (mayN str)) := by
    rw [body45]
    have e0 : ∀ j, exec E1 (j + 1) (.ops [p 2 (.mv (.c (.bool false)))]) (mkFr [.str str] 0 .nil) glob = some (.nrm, (mkFr [.str str] 0 .nil).set (.bool false) 2, glob) := fun j => by
      unfold p
      simp [ex_ops, ro_cons, ro_nil, EOp.loud, qop', qop, ev_c, putA_some]
    have e1 : ∀ j, exec E1 (j + 1) (.ops [p 5 (.mv (t 0)), p 6 (.rngS (t 5))]) ((mkFr [.str str] 0 .nil).set (.bool false) 2) glob = some (.nrm, (((mkFr [.str str] 0 .nil).set (.bool false) 2).set (.str str) 5).set (.ptr 3 0) 6, glob.alloc (.sit str 0)) := fun j => by
      unfold p t
      simp [ex_ops, ro_cons, ro_nil, EOp.loud, qop', qop, ev_t, putA_some, mkFr, T.get_set]
      rfl
    have e2 := fun j => nick_loop str hb str.length 0 ((((mkFr [.str str] 0 .nil).set (.bool false) 2).set (.str str) 5).set (.ptr 3 0) 6) (glob.alloc (.sit str 0)) (str.length + 100 + j) (by omega) (by omega) (by omega)
      (by simp [mkFr, T.get_set]) (by simp [T.get_set]) (by rw [Heap.get_alloc]; rfl)
    rw [show str.length + 200 = str.length + 100 + 96 + 4 from rfl, sq_nrm (e0 _)]
    obtain ⟨fr', H', ⟨hm, he, h0⟩ | ⟨hm, he, h2⟩⟩ := e2 96
    · rw [sq_nrm ((sq_nrm (e1 _)).trans (bl_exit he))]
      simp only [List.drop_zero] at hm
      unfold p t ii
      simp [ex_seq, ex_ops, ex_ret, ro_cons, ro_nil, EOp.loud, qop', qop, ev_t, ev_c, putA_some, T.get_set, h0, intOp, mayN, hm]
      omega
    · rw [sq_ret ((sq_nrm (e1 _)).trans (bl_ret he))]
      simp only [List.drop_zero] at hm
      exact ⟨_, _, rfl, by rw [h2, mayN, hm]; rfl⟩
  obtain ⟨fr', H', h1, h2⟩ := key
  exact pcall_of_call (H' := H') rfl rfl rfl (call_of_ret (vs := [.bool (mayN str)]) fn45 h1 (by show resList fr' H' [.t 2] = _; simp [resList, resOf, h2]))

/-! The reference's -/
theorem rune58 {n : Nat} (h : 200 ≤ n) (t : List Nat) (h0 : t ≠ []) (hl : t.length ≤ 2 ^ 50) (hb : ∀ x ∈ t, x < 256) : pureA E1 (exec E1 n) 58 [.str t] = some (dV (dec t)) := pcall_mono E1 h (rune1_dec t h0 hl hb)
noncomputable def rb : EC := (.seq (.seq (.ops [p 8 (.mv (t 3)), p 9 (.sbin .neq (t 8) (.c (.str [])))]) (EC.cond (t 9) (EC.skip) (EC.exit 0)))
 (EC.block 1 (.seq (.ops [p 11 (.mv (t 3)), p 12 (.pcall 58 [(t 11)]), p 10 (.mv (t 12)), p 13 (.ext (t 10) 0), p 14 (.ext (t 10) 1), p 15 (.ext (t 10) 2), p 4 (.mv (t 13)), p 5 (.mv (t 14)), p 6 (.mv (t 15))])
 (.seq (.seq (.ops [p 16 (.mv (t 6)), p 17 (.un .not (t 16)), p 18 (.mv (t 17)), w (some 19) (some (18, false)) (.mv (t 4)) 0 0 0, w (some 20) (some (18, false)) (.pcall 59 [(t 19)]) 0 0 0, w (some 21) (some (18, false)) (.ibin .eql (t 20) (ii 0)) 0 0 0,
  p 22 (.pick (t 18) (.c (.bool true)) (t 21))])
 (EC.cond (t 22) (.seq (.ops [p 2 (.mv (.c (.bool false)))]) (EC.ret)) (EC.skip)))
 (.ops [p 23 (.mv (t 3)), p 24 (.mv (t 5)), p 25 (.slS (t 23) (some (t 24)) none), p 3 (.mv (t 25))])))))
theorem rb_end {fr : Fr} {H : Heap} (M : Nat) (h3 : fr.get 3 = some (.str [])) : ∃ fr', exec E1 (M + 20) (.loop rb) fr H = some (.exit 0, fr', H) ∧ fr'.get 0 = fr.get 0 := by
  refine ⟨(fr.set (.str []) 8).set (.bool false) 9, ?_, by simp [T.get_set]⟩
  rw [ex_loop]
  unfold rb p t
  simp [ex_seq, ex_ops, ex_cond, ex_exit, ro_cons, ro_nil, EOp.loud, lop, qop', qop, ev_t, ev_c, putA_some, h3, T.get_set, strOp]
theorem rb_seg1 {fr : Fr} {H : Heap} {str : List Nat} (j : Nat) (h3 : fr.get 3 = some (.str str)) (h0 : str ≠ []) :
    exec E1 (j + 4) (.seq (.ops [p 8 (.mv (t 3)), p 9 (.sbin .neq (t 8) (.c (.str [])))]) (EC.cond (t 9) (EC.skip) (EC.exit 0))) fr H = some (.nrm, (fr.set (.str str) 8).set (.bool true) 9, H) := by
  unfold p t
  have he' : (str == []) = false := by cases str with | nil => exact absurd rfl h0 | cons a r => rfl
  simp [ex_seq, ex_ops, ex_cond, ex_exit, ex_block, ex_skip, ex_ret, ro_cons, ro_guard, ro_nil, EOp.loud, lop, qop', qop, ev_t, ev_c, putA_some, putA_none, T.get_set, h3, strOp, he']
theorem rb_seg2 {fr : Fr} {H : Heap} {str : List Nat} {a b c : V} (j : Nat) (h3 : fr.get 3 = some (.str str)) (hr : pureA E1 (exec E1 j) 58 [.str str] = some (.tup [a, b, c])) :
    ∃ fr', exec E1 (j + 1) (.ops [p 11 (.mv (t 3)), p 12 (.pcall 58 [(t 11)]), p 10 (.mv (t 12)), p 13 (.ext (t 10) 0), p 14 (.ext (t 10) 1), p 15 (.ext (t 10) 2), p 4 (.mv (t 13)), p 5 (.mv (t 14)), p 6 (.mv (t 15))]) fr H = some (.nrm, fr', H) ∧
      fr'.get 3 = some (.str str) ∧ fr'.get 4 = some a ∧ fr'.get 5 = some b ∧ fr'.get 6 = some c ∧ fr'.get 0 = fr.get 0 := by
  unfold p t
  apply Exists.intro
  apply And.intro
  · apply ex_of_ops
    iterate 9 (refine (ro_q (by simp [qop', qop, ev_t, T.get_set, putA_some, h3, hr]; rfl) rfl).trans ?_)
    rfl
  · simp [putA_some, T.get_set, h3]
noncomputable def rbt : EC := (.seq (.ops [p 16 (.mv (t 6)), p 17 (.un .not (t 16)), p 18 (.mv (t 17)), w (some 19) (some (18, false)) (.mv (t 4)) 0 0 0, w (some 20) (some (18, false)) (.pcall 59 [(t 19)]) 0 0 0, w (some 21) (some (18, false)) (.ibin .eql (t 20) (ii 0)) 0 0 0,
  p 22 (.pick (t 18) (.c (.bool true)) (t 21))])
 (EC.cond (t 22) (.seq (.ops [p 2 (.mv (.c (.bool false)))]) (EC.ret)) (EC.skip)))
theorem rb_bad {fr : Fr} {H : Heap} (j : Nat) (h6 : fr.get 6 = some (.bool false)) : ∃ fr', exec E1 (j + 5) rbt fr H = some (.ret, fr', H) ∧ fr'.get 2 = some (.bool false) := by
  unfold rbt p t w ii
  refine ⟨_, (by simp [ex_seq, ex_ops, ex_cond, ex_exit, ex_block, ex_skip, ex_ret, ro_cons, ro_guard, ro_nil, EOp.loud, lop, qop', qop, ev_t, ev_c, putA_some, putA_none, T.get_set, h6]; rfl : _ = _), ?_⟩
  simp only [T.get_set, if_true]
theorem rb_kind {fr : Fr} {H : Heap} {r k : Int} (j : Nat) (h6 : fr.get 6 = some (.bool true)) (h4 : fr.get 4 = some (.int .i64 r)) (hk : ∀ i, pureA E1 (exec E1 (j + i)) 59 [.int .i64 r] = some (.int .i64 k)) :
    if k = 0 then (∃ fr', exec E1 (j + 5) rbt fr H = some (.ret, fr', H) ∧ fr'.get 2 = some (.bool false))
    else (∃ fr', exec E1 (j + 5) rbt fr H = some (.nrm, fr', H) ∧ fr'.get 3 = fr.get 3 ∧ fr'.get 5 = fr.get 5 ∧ fr'.get 0 = fr.get 0) := by
  unfold rbt p t w ii
  by_cases hz : k = 0
  · rw [if_pos hz]
    subst hz
    refine ⟨_, (by simp [ex_seq, ex_ops, ex_cond, ex_exit, ex_block, ex_skip, ex_ret, ro_cons, ro_guard, ro_nil, EOp.loud, lop, qop', qop, ev_t, ev_c, putA_some, putA_none, T.get_set, h6, h4, hk, intOp, decide_true]; rfl : _ = _), ?_⟩
    simp only [T.get_set, if_true]
  · rw [if_neg hz]
    refine ⟨_, (by simp [ex_seq, ex_ops, ex_cond, ex_exit, ex_block, ex_skip, ex_ret, ro_cons, ro_guard, ro_nil, EOp.loud, lop, qop', qop, ev_t, ev_c, putA_some, putA_none, T.get_set, h6, h4, hk, intOp, hz, decide_false]; rfl : _ = _), ?_⟩
    simp [T.get_set]
theorem rb_cut {fr : Fr} {H : Heap} {str : List Nat} {n : Nat} (j : Nat) (h3 : fr.get 3 = some (.str str)) (h5 : fr.get 5 = some (.int .i64 (n : Int))) (hn : n ≤ str.length) :
    exec E1 (j + 1) (.ops [p 23 (.mv (t 3)), p 24 (.mv (t 5)), p 25 (.slS (t 23) (some (t 24)) none), p 3 (.mv (t 25))]) fr H = some (.nrm, (((fr.set (.str str) 23).set (.int .i64 (n : Int)) 24).set (.str (str.drop n)) 25).set (.str (str.drop n)) 3, H) := by
  unfold p t
  have hb1 : bound none str.length str.length = some str.length := by simp [bound]
  have hb2 : bound (some (.int .i64 (n : Int))) 0 str.length = some n := by simp [bound]; omega
  simp [ex_seq, ex_ops, ex_cond, ex_exit, ex_block, ex_skip, ex_ret, ro_cons, ro_guard, ro_nil, EOp.loud, lop, qop', qop, ev_t, ev_c, putA_some, putA_none, T.get_set, h3, h5, hb1, hb2, List.take_length]


noncomputable def rb1 : EC := .seq (.ops [p 8 (.mv (t 3)), p 9 (.sbin .neq (t 8) (.c (.str [])))]) (EC.cond (t 9) (EC.skip) (EC.exit 0))
noncomputable def rb2 : EC := .ops [p 11 (.mv (t 3)), p 12 (.pcall 58 [(t 11)]), p 10 (.mv (t 12)), p 13 (.ext (t 10) 0), p 14 (.ext (t 10) 1), p 15 (.ext (t 10) 2), p 4 (.mv (t 13)), p 5 (.mv (t 14)), p 6 (.mv (t 15))]
noncomputable def rb3 : EC := .ops [p 23 (.mv (t 3)), p 24 (.mv (t 5)), p 25 (.slS (t 23) (some (t 24)) none), p 3 (.mv (t 25))]
theorem rb_eq : rb = .seq rb1 (.block 1 (.seq rb2 (.seq rbt rb3))) := rfl
theorem rb_q {fr f1 f2 f3 : Fr} {H : Heap} {M : Nat} (e1 : exec E1 (M + 18) rb1 fr H = some (.nrm, f1, H)) (e2 : exec E1 (M + 16) rb2 f1 H = some (.nrm, f2, H)) :
    (exec E1 (M + 15) rbt f2 H = some (.ret, f3, H) → exec E1 (M + 20) (.loop rb) fr H = some (.ret, f3, H)) ∧
    (∀ f4, exec E1 (M + 15) rbt f2 H = some (.nrm, f3, H) → exec E1 (M + 15) rb3 f3 H = some (.nrm, f4, H) → exec E1 (M + 20) (.loop rb) fr H = exec E1 (M + 19) (.loop rb) f4 H) := by
  have a0 : exec E1 (M + 19) rb fr H = exec E1 (M + 18) (.block 1 (.seq rb2 (.seq rbt rb3))) f1 H := by
    rw [rb_eq]; exact sq_nrm (n := M + 18) e1
  have a1 : exec E1 (M + 17) (.seq rb2 (.seq rbt rb3)) f1 H = exec E1 (M + 16) (.seq rbt rb3) f2 H := sq_nrm (n := M + 16) e2
  constructor
  · intro e3
    have a2 : exec E1 (M + 16) (.seq rbt rb3) f2 H = some (.ret, f3, H) := sq_ret (n := M + 15) e3
    exact lp_ret (n := M + 19) (a0.trans (bl_ret (n := M + 17) (a1.trans a2)))
  · intro f4 e3 e4
    have a2 : exec E1 (M + 16) (.seq rbt rb3) f2 H = some (.nrm, f4, H) := (sq_nrm (n := M + 15) e3).trans e4
    exact lp_nrm (n := M + 19) (a0.trans (bl_nrm (n := M + 17) (a1.trans a2)))
theorem rb_round {fr : Fr} {H : Heap} {str : List Nat} (M : Nat) (hM : 200 ≤ M) (h3 : fr.get 3 = some (.str str)) (h0 : str ≠ []) (hl : str.length ≤ 2 ^ 50) (hb : ∀ x ∈ str, x < 256) :
    (∃ r n fr', dec str = some (r, n) ∧ ¬ kindN (r : Int) = 0 ∧ exec E1 (M + 20) (.loop rb) fr H = exec E1 (M + 19) (.loop rb) fr' H ∧ fr'.get 3 = some (.str (str.drop n)) ∧ fr'.get 0 = fr.get 0) ∨
    ((dec str = none ∨ ∃ r n, dec str = some (r, n) ∧ kindN (r : Int) = 0) ∧ ∃ fr', exec E1 (M + 20) (.loop rb) fr H = some (.ret, fr', H) ∧ fr'.get 2 = some (.bool false)) := by
  have s1 : exec E1 (M + 18) rb1 fr H = some (.nrm, (fr.set (.str str) 8).set (.bool true) 9, H) := rb_seg1 (M + 14) h3 h0
  have g3 : ((fr.set (.str str) 8).set (.bool true) 9).get 3 = some (.str str) := by simp [T.get_set, h3]
  have g0 : ((fr.set (.str str) 8).set (.bool true) 9).get 0 = fr.get 0 := by simp [T.get_set]
  generalize (fr.set (.str str) 8).set (.bool true) 9 = f1 at s1 g3 g0
  have hr : pureA E1 (exec E1 (M + 15)) 58 [.str str] = some (dV (dec str)) := rune58 (n := M + 15) (by omega) str h0 hl hb
  cases hd : dec str with
  | none =>
    rw [hd, dV_none] at hr
    refine .inr ⟨.inl rfl, ?_⟩
    obtain ⟨f2, e2, a3, a4, a5, a6, a0⟩ := rb_seg2 (H := H) (M + 15) g3 hr
    obtain ⟨f3, e3, c2⟩ := rb_bad (H := H) (M + 10) a6
    exact ⟨f3, (rb_q s1 e2).1 e3, c2⟩
  | some x =>
    obtain ⟨r, n⟩ := x
    rw [hd, dV_some] at hr
    have hp := dec_pos hd h0
    obtain ⟨f2, e2, a3, a4, a5, a6, a0⟩ := rb_seg2 (H := H) (M + 15) g3 hr
    have hk := rb_kind (H := H) (k := kindN (r : Int)) (M + 10) a6 a4 (fun i => kind59 (n := M + 10 + i) (by omega) _)
    by_cases hz : kindN (r : Int) = 0
    · rw [if_pos hz] at hk
      obtain ⟨f3, e3, c2⟩ := hk
      exact .inr ⟨.inr ⟨r, n, rfl, hz⟩, f3, (rb_q s1 e2).1 e3, c2⟩
    · rw [if_neg hz] at hk
      obtain ⟨f3, e3, c3, c5, c0⟩ := hk
      have e4 : exec E1 (M + 15) rb3 f3 H = _ := rb_cut (H := H) (n := n) (M + 14) (c3.trans a3) (c5.trans a5) hp.2
      exact .inl ⟨r, n, _, rfl, hz, (rb_q s1 e2).2 _ e3 e4, by simp [T.get_set], by simp [T.get_set, c0, a0, g0]⟩
theorem ref_loop : ∀ (k : Nat) (str : List Nat) (fr : Fr) (H : Heap) (N : Nat), str.length ≤ k → k + 300 ≤ N → fr.get 3 = some (.str str) → str.length ≤ 2 ^ 50 → (∀ x ∈ str, x < 256) →
    ∃ fr', (mayT str = true ∧ exec E1 N (.loop rb) fr H = some (.exit 0, fr', H) ∧ fr'.get 0 = fr.get 0) ∨ (mayT str = false ∧ exec E1 N (.loop rb) fr H = some (.ret, fr', H) ∧ fr'.get 2 = some (.bool false))
  | 0, str, fr, H, N, hk, hN, h3, hl, hb => by
    obtain ⟨M, rfl⟩ : ∃ M, N = M + 20 := ⟨N - 20, by omega⟩
    obtain rfl : str = [] := List.length_eq_zero_iff.1 (by omega)
    obtain ⟨f1, h1, h2⟩ := rb_end (H := H) M h3
    exact ⟨f1, .inl ⟨rfl, h1, h2⟩⟩
  | k + 1, str, fr, H, N, hk, hN, h3, hl, hb => by
    obtain ⟨M, rfl⟩ : ∃ M, N = M + 20 := ⟨N - 20, by omega⟩
    by_cases h0 : str = []
    · subst h0
      obtain ⟨f1, h1, h2⟩ := rb_end (H := H) M h3
      exact ⟨f1, .inl ⟨rfl, h1, h2⟩⟩
    · rcases rb_round (H := H) M (by omega) h3 h0 hl hb with ⟨r, n, f1, hd, hz, h1, h2, h4⟩ | ⟨hd, f1, h1, h2⟩
      · have hp := dec_pos hd h0
        rw [mayT_some h0 hd, if_neg hz, h1, ← h4]
        exact ref_loop k (str.drop n) f1 H (M + 19) (by simp; omega) (by omega) h2 (by simp; omega) (fun x hx => hb x (List.mem_of_mem_drop hx))
      · refine ⟨f1, .inr ⟨?_, h1, h2⟩⟩
        rcases hd with hd | ⟨r, n, hd, hz⟩
        · exact mayT_none h0 hd
        · rw [mayT_some h0 hd, if_pos hz]
theorem fn44 : E1.fn 44 = some e44 := by kernel_rfl
theorem body44 : e44.body = .seq (.ops [p 2 (.mv (.c (.bool false)))]) (.seq (.seq (.ops [p 7 (.mv (t 0)), p 3 (.mv (t 7))]) (.block 0 (.loop rb)))
  (.seq (.ops [p 26 (.mv (t 0)), p 27 (.lenS (t 26)), p 28 (.ibin .leq (t 27) (ii 20)), p 2 (.mv (t 28))]) .ret)) := rfl
theorem ref_may (str : List Nat) (hl : str.length ≤ 2 ^ 50) (hb : ∀ x ∈ str, x < 256) : pcall E1 (str.length + 400) 44 [.str str] = some (.bool (mayN str)) := by
  have key : ∃ fr' H', exec E1 (str.length + 400) e44.body (mkFr [.str str] 0 .nil) glob = some (.ret, fr', H') ∧ fr'.get 2 = some (.bool (mayN str)) := by
    rw [body44]
    have e0 : ∀ j, exec E1 (j + 1) (.ops [p 2 (.mv (.c (.bool false)))]) (mkFr [.str str] 0 .nil) glob = some (.nrm, (mkFr [.str str] 0 .nil).set (.bool false) 2, glob) := fun j => by
      unfold p
      simp [ex_ops, ro_cons, ro_nil, EOp.loud, qop', qop, ev_c, putA_some]
    have e1 : ∀ j, exec E1 (j + 1) (.ops [p 7 (.mv (t 0)), p 3 (.mv (t 7))]) ((mkFr [.str str] 0 .nil).set (.bool false) 2) glob = some (.nrm, (((mkFr [.str str] 0 .nil).set (.bool false) 2).set (.str str) 7).set (.str str) 3, glob) := fun j => by
      unfold p t
      simp [ex_ops, ro_cons, ro_nil, EOp.loud, qop', qop, ev_t, putA_some, mkFr, T.get_set]
    have g3 : ((((mkFr [.str str] 0 .nil).set (.bool false) 2).set (.str str) 7).set (.str str) 3).get 3 = some (.str str) := by simp [T.get_set]
    have g0 : ((((mkFr [.str str] 0 .nil).set (.bool false) 2).set (.str str) 7).set (.str str) 3).get 0 = some (.str str) := by simp [mkFr, T.get_set]
    generalize ((((mkFr [.str str] 0 .nil).set (.bool false) 2).set (.str str) 7).set (.str str) 3) = f1 at e1 g3 g0
    have e2 := ref_loop str.length str f1 glob (str.length + 396) (Nat.le_refl _) (by omega) g3 hl hb
    rw [show str.length + 400 = str.length + 399 + 1 from rfl, sq_nrm (e0 _)]
    obtain ⟨fr', ⟨hm, he, h0⟩ | ⟨hm, he, h2⟩⟩ := e2
    · have a1 : exec E1 (str.length + 398) (.seq (.ops [p 7 (.mv (t 0)), p 3 (.mv (t 7))]) (.block 0 (.loop rb))) ((mkFr [.str str] 0 .nil).set (.bool false) 2) glob = some (.nrm, fr', glob) :=
        (sq_nrm (n := str.length + 397) (e1 _)).trans (bl_exit (n := str.length + 396) he)
      rw [sq_nrm (n := str.length + 398) a1]
      rw [g0] at h0
      unfold p t ii
      simp [ex_seq, ex_ops, ex_ret, ro_cons, ro_nil, EOp.loud, qop', qop, ev_t, ev_c, putA_some, T.get_set, h0, intOp, mayN, hm]
      omega
    · have a1 : exec E1 (str.length + 398) (.seq (.ops [p 7 (.mv (t 0)), p 3 (.mv (t 7))]) (.block 0 (.loop rb))) ((mkFr [.str str] 0 .nil).set (.bool false) 2) glob = some (.ret, fr', glob) :=
        (sq_nrm (n := str.length + 397) (e1 _)).trans (bl_ret (n := str.length + 396) he)
      rw [sq_ret (n := str.length + 398) a1]
      exact ⟨_, _, rfl, by rw [h2, mayN, hm]; rfl⟩
  obtain ⟨fr', H', h1, h2⟩ := key
  exact pcall_of_call (H' := H') rfl rfl rfl (call_of_ret (vs := [.bool (mayN str)]) fn44 h1 (by show resList fr' H' [.t 2] = _; simp [resList, resOf, h2]))
end Go.Proofs.YtdalcnjdpfnjjaaGreatDoor
