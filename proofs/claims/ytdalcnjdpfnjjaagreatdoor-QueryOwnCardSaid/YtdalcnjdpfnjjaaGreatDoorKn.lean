/- What is known of this program: the closed call, names, numbers, who is there. -/
import Derived.Test.YtdalcnjdpfnjjaaGreatDoorNickC
import Derived.Test.YtdalcnjdpfnjjaaGreatDoorKnow
set_option linter.unusedSimpArgs false
set_option linter.unusedVariables false
namespace Go.Proofs.YtdalcnjdpfnjjaaGreatDoor
open Go Go.Ev
set_option maxRecDepth 100000
/-- What the tests stand for. -/
def valP (i : Nat → Int) (s : Nat → List Nat) : Val := { i := i, s := s, b := fun _ => false, p := fun k => if k = 0 then mayN else if k = 1 then mayXl mayN else fun _ => false }
noncomputable def kl2 : List (Nat × (List V → Option V)) := [(8, kTrue), (45, kStr mayN), (44, kStr mayN)]
noncomputable def sl2 : List (Nat × (List SV → SM SV)) := [(8, kTrueS), (45, kStrS 0), (44, kStrS 0)]
theorem kt2 : KnTie Tryz.prog glob kl2 := by
  refine .cons ?_ (.cons ?_ (.cons ?_ .nil))
  · intro args v h
    cases args with
    | nil => simp [kTrue] at h; subst h; exact pcall_good tieE 100000 8 [] _ begun_true
    | cons a r => simp [kTrue] at h
  · intro args v h
    unfold kStr at h
    split at h
    · split at h
      · rename_i s hs
        injection h with h; subst h
        exact pcall_good tieE1 _ 45 _ _ (nick_may s hs.2)
      · simp at h
    · simp at h
  · intro args v h
    unfold kStr at h
    split at h
    · split at h
      · rename_i s hs
        injection h with h; subst h
        exact pcall_good tieE1 _ 44 _ _ (ref_may s hs.1 hs.2)
      · simp at h
    · simp at h
noncomputable def E2 : Env := { fn := E.fn, known := assoc kl2, glob := E.glob }
noncomputable def S2 : SEnv := { fn := S1.fn, known := assoc sl2, glob := S1.glob }
theorem tieE2 : Tie Tryz.prog Co.pureF E2 := kt2.tie tieE
theorem seOk2 {i : Nat → Int} {s : Nat → List Nat} {Th : Thy} (ok : (valP i s).Ok Th) : S2.Ok (valP i s) Th E2 :=
  KnSym.ok (seOk1 (valP i s) Th) (.cons kTrue_ok (.cons (kStr_ok ok rfl) (.cons (kStr_ok ok rfl) .nil)))
theorem okP (i : Nat → Int) (t : List Nat) (hl : t.length ≤ 2 ^ 50) (hb : ∀ x ∈ t, x < 256) : (valP i (fun _ => t)).Ok th0 := ⟨fun _ => hl, fun _ x h => hb x h, fun _ h => by simp at h, fun _ h => by simp at h, fun _ h => by simp at h⟩
theorem outs43false : outs (callQ S2 200 43 [.agg [.int .u32 (.var 0), .int .u32 (.var 1), .int .i64 (.var 2), .int .i64 (.var 3), .bool false, .str [.sub 0 0 none]]] sglob th0 []) = some [([(.eqI (.var 0) (.lit 0), true), (.eqI (.var 3) (.lit 1), true)], (.bool false)),
  ([(.eqI (.var 0) (.lit 4294967295), true), (.eqI (.var 0) (.lit 0), false), (.eqI (.var 3) (.lit 1), true)], (.bool false)),
  ([(.ltI (.var 2) (.lit (-1)), true), (.eqI (.var 0) (.lit 4294967295), false), (.eqI (.var 0) (.lit 0), false), (.eqI (.var 3) (.lit 1), true)], (.bool false)),
  ([(.pr 0 [.sub 0 0 none], true), (.ltI (.var 2) (.var 3), true), (.ltI (.var 2) (.lit (-1)), false), (.eqI (.var 0) (.lit 4294967295), false), (.eqI (.var 0) (.lit 0), false), (.eqI (.var 3) (.lit 1), true)], (.bool true)),
  ([(.pr 0 [.sub 0 0 none], false), (.ltI (.var 2) (.var 3), true), (.ltI (.var 2) (.lit (-1)), false), (.eqI (.var 0) (.lit 4294967295), false), (.eqI (.var 0) (.lit 0), false), (.eqI (.var 3) (.lit 1), true)], (.bool false)),
  ([(.ltI (.var 2) (.var 3), false), (.ltI (.var 2) (.lit (-1)), false), (.eqI (.var 0) (.lit 4294967295), false), (.eqI (.var 0) (.lit 0), false), (.eqI (.var 3) (.lit 1), true)], (.bool false)),
  ([(.eqI (.var 0) (.lit 0), true), (.eqI (.var 3) (.lit 6), true), (.eqI (.var 3) (.lit 1), false)], (.bool false)),
  ([(.eqI (.var 0) (.lit 4294967295), true), (.eqI (.var 0) (.lit 0), false), (.eqI (.var 3) (.lit 6), true), (.eqI (.var 3) (.lit 1), false)], (.bool false)),
  ([(.ltI (.var 2) (.lit (-1)), true), (.eqI (.var 0) (.lit 4294967295), false), (.eqI (.var 0) (.lit 0), false), (.eqI (.var 3) (.lit 6), true), (.eqI (.var 3) (.lit 1), false)], (.bool false)),
  ([(.pr 0 [.sub 0 0 none], true), (.ltI (.var 2) (.var 3), true), (.ltI (.var 2) (.lit (-1)), false), (.eqI (.var 0) (.lit 4294967295), false), (.eqI (.var 0) (.lit 0), false), (.eqI (.var 3) (.lit 6), true), (.eqI (.var 3) (.lit 1), false)], (.bool true)),
  ([(.pr 0 [.sub 0 0 none], false), (.ltI (.var 2) (.var 3), true), (.ltI (.var 2) (.lit (-1)), false), (.eqI (.var 0) (.lit 4294967295), false), (.eqI (.var 0) (.lit 0), false), (.eqI (.var 3) (.lit 6), true), (.eqI (.var 3) (.lit 1), false)], (.bool false)),
  ([(.ltI (.var 2) (.var 3), false), (.ltI (.var 2) (.lit (-1)), false), (.eqI (.var 0) (.lit 4294967295), false), (.eqI (.var 0) (.lit 0), false), (.eqI (.var 3) (.lit 6), true), (.eqI (.var 3) (.lit 1), false)], (.bool false)),
  ([(.eqI (.var 0) (.lit 0), true), (.eqI (.var 3) (.lit 8), true), (.eqI (.var 3) (.lit 6), false), (.eqI (.var 3) (.lit 1), false)], (.bool false)),
  ([(.eqI (.var 0) (.lit 4294967295), true), (.eqI (.var 0) (.lit 0), false), (.eqI (.var 3) (.lit 8), true), (.eqI (.var 3) (.lit 6), false), (.eqI (.var 3) (.lit 1), false)], (.bool false)),
  ([(.ltI (.var 2) (.lit (-1)), true), (.eqI (.var 0) (.lit 4294967295), false), (.eqI (.var 0) (.lit 0), false), (.eqI (.var 3) (.lit 8), true), (.eqI (.var 3) (.lit 6), false), (.eqI (.var 3) (.lit 1), false)], (.bool false)),
  ([(.pr 0 [.sub 0 0 none], true), (.ltI (.var 2) (.var 3), true), (.ltI (.var 2) (.lit (-1)), false), (.eqI (.var 0) (.lit 4294967295), false), (.eqI (.var 0) (.lit 0), false), (.eqI (.var 3) (.lit 8), true), (.eqI (.var 3) (.lit 6), false), (.eqI (.var 3) (.lit 1), false)], (.bool true)),
  ([(.pr 0 [.sub 0 0 none], false), (.ltI (.var 2) (.var 3), true), (.ltI (.var 2) (.lit (-1)), false), (.eqI (.var 0) (.lit 4294967295), false), (.eqI (.var 0) (.lit 0), false), (.eqI (.var 3) (.lit 8), true), (.eqI (.var 3) (.lit 6), false), (.eqI (.var 3) (.lit 1), false)], (.bool false)),
  ([(.ltI (.var 2) (.var 3), false), (.ltI (.var 2) (.lit (-1)), false), (.eqI (.var 0) (.lit 4294967295), false), (.eqI (.var 0) (.lit 0), false), (.eqI (.var 3) (.lit 8), true), (.eqI (.var 3) (.lit 6), false), (.eqI (.var 3) (.lit 1), false)], (.bool false)),
  ([(.eqI (.var 0) (.lit 0), true), (.eqI (.var 3) (.lit 8), false), (.eqI (.var 3) (.lit 6), false), (.eqI (.var 3) (.lit 1), false)], (.bool false)),
  ([(.eqI (.var 0) (.lit 4294967295), true), (.eqI (.var 0) (.lit 0), false), (.eqI (.var 3) (.lit 8), false), (.eqI (.var 3) (.lit 6), false), (.eqI (.var 3) (.lit 1), false)], (.bool false)),
  ([(.eqI (.var 0) (.lit 4294967295), false), (.eqI (.var 0) (.lit 0), false), (.eqI (.var 3) (.lit 8), false), (.eqI (.var 3) (.lit 6), false), (.eqI (.var 3) (.lit 1), false)], (.bool false))] := by kernel_rfl
theorem xid43false (f t sl ss : Int) (nk : List Nat) (hl : nk.length ≤ 2 ^ 50) (hb : ∀ x ∈ nk, x < 256) :
    pcall E2 200 43 [.agg [.int .u32 f, .int .u32 t, .int .i64 sl, .int .i64 ss, .bool false, .str nk]] = some (.bool (mayX mayN f sl ss nk)) := by
  have ok := okP (fun j => if j = 0 then f else if j = 1 then t else if j = 2 then sl else ss) nk hl hb
  have h := pcall_outs ok (seOk2 ok) rfl rfl (Sat.nil _) (by rfl) outs43false
  simp only [AnyOf, satC, denVs, denV, lt_t, lt_f, eq_t, eq_f, pr_t, pr_f, denI, denS, denP, valP, subL, List.drop_zero, List.append_nil, if_true, Nat.one_ne_zero, Nat.reduceEqDiff, if_false] at h
  rcases h with h | h | h | h | h | h | h | h | h | h | h | h | h | h | h | h | h | h | h | h | h | h
  all_goals first
    | exact h.elim
    | (obtain ⟨h1, h2⟩ := h
       rw [h2]
       congr 2
       symm
       simp only [mayX, namedB, Bool.and_eq_true, Bool.or_eq_true, Bool.not_eq_true', decide_eq_true_eq, decide_eq_false_iff_not, Bool.and_eq_false_iff, Bool.or_eq_false_iff, Bool.not_eq_false', h1]
       first | omega | (simp; omega) | (simp [h1]; done) | (simp [h1]; omega))
theorem outs13false : outs (callQ S2 200 13 [.agg [.int .u32 (.var 0), .int .u32 (.var 1), .int .i64 (.var 2), .int .i64 (.var 3), .bool false, .str [.sub 0 0 none]]] sglob th0 []) = some [([(.eqI (.var 0) (.lit 0), true)], (.bool false)),
  ([(.eqI (.var 0) (.lit 4294967295), true), (.eqI (.var 0) (.lit 0), false)], (.bool false)),
  ([(.ltI (.var 2) (.lit (-1)), true), (.eqI (.var 3) (.lit 1), true), (.eqI (.var 0) (.lit 4294967295), false), (.eqI (.var 0) (.lit 0), false)], (.bool false)),
  ([(.pr 0 [.sub 0 0 none], true), (.ltI (.var 2) (.var 3), true), (.ltI (.var 2) (.lit (-1)), false), (.eqI (.var 3) (.lit 1), true), (.eqI (.var 0) (.lit 4294967295), false), (.eqI (.var 0) (.lit 0), false)], (.bool true)),
  ([(.pr 0 [.sub 0 0 none], false), (.ltI (.var 2) (.var 3), true), (.ltI (.var 2) (.lit (-1)), false), (.eqI (.var 3) (.lit 1), true), (.eqI (.var 0) (.lit 4294967295), false), (.eqI (.var 0) (.lit 0), false)], (.bool false)),
  ([(.ltI (.var 2) (.var 3), false), (.ltI (.var 2) (.lit (-1)), false), (.eqI (.var 3) (.lit 1), true), (.eqI (.var 0) (.lit 4294967295), false), (.eqI (.var 0) (.lit 0), false)], (.bool false)),
  ([(.ltI (.var 2) (.lit (-1)), true), (.eqI (.var 3) (.lit 6), true), (.eqI (.var 3) (.lit 1), false), (.eqI (.var 0) (.lit 4294967295), false), (.eqI (.var 0) (.lit 0), false)], (.bool false)),
  ([(.pr 0 [.sub 0 0 none], true), (.ltI (.var 2) (.var 3), true), (.ltI (.var 2) (.lit (-1)), false), (.eqI (.var 3) (.lit 6), true), (.eqI (.var 3) (.lit 1), false), (.eqI (.var 0) (.lit 4294967295), false), (.eqI (.var 0) (.lit 0), false)], (.bool true)),
  ([(.pr 0 [.sub 0 0 none], false), (.ltI (.var 2) (.var 3), true), (.ltI (.var 2) (.lit (-1)), false), (.eqI (.var 3) (.lit 6), true), (.eqI (.var 3) (.lit 1), false), (.eqI (.var 0) (.lit 4294967295), false), (.eqI (.var 0) (.lit 0), false)], (.bool false)),
  ([(.ltI (.var 2) (.var 3), false), (.ltI (.var 2) (.lit (-1)), false), (.eqI (.var 3) (.lit 6), true), (.eqI (.var 3) (.lit 1), false), (.eqI (.var 0) (.lit 4294967295), false), (.eqI (.var 0) (.lit 0), false)], (.bool false)),
  ([(.ltI (.var 2) (.lit (-1)), true), (.eqI (.var 3) (.lit 8), true), (.eqI (.var 3) (.lit 6), false), (.eqI (.var 3) (.lit 1), false), (.eqI (.var 0) (.lit 4294967295), false), (.eqI (.var 0) (.lit 0), false)], (.bool false)),
  ([(.pr 0 [.sub 0 0 none], true), (.ltI (.var 2) (.var 3), true), (.ltI (.var 2) (.lit (-1)), false), (.eqI (.var 3) (.lit 8), true), (.eqI (.var 3) (.lit 6), false), (.eqI (.var 3) (.lit 1), false), (.eqI (.var 0) (.lit 4294967295), false), (.eqI (.var 0) (.lit 0), false)], (.bool true)),
  ([(.pr 0 [.sub 0 0 none], false), (.ltI (.var 2) (.var 3), true), (.ltI (.var 2) (.lit (-1)), false), (.eqI (.var 3) (.lit 8), true), (.eqI (.var 3) (.lit 6), false), (.eqI (.var 3) (.lit 1), false), (.eqI (.var 0) (.lit 4294967295), false), (.eqI (.var 0) (.lit 0), false)], (.bool false)),
  ([(.ltI (.var 2) (.var 3), false), (.ltI (.var 2) (.lit (-1)), false), (.eqI (.var 3) (.lit 8), true), (.eqI (.var 3) (.lit 6), false), (.eqI (.var 3) (.lit 1), false), (.eqI (.var 0) (.lit 4294967295), false), (.eqI (.var 0) (.lit 0), false)], (.bool false)),
  ([(.eqI (.var 3) (.lit 8), false), (.eqI (.var 3) (.lit 6), false), (.eqI (.var 3) (.lit 1), false), (.eqI (.var 0) (.lit 4294967295), false), (.eqI (.var 0) (.lit 0), false)], (.bool false))] := by kernel_rfl
theorem xid13false (f t sl ss : Int) (nk : List Nat) (hl : nk.length ≤ 2 ^ 50) (hb : ∀ x ∈ nk, x < 256) :
    pcall E2 200 13 [.agg [.int .u32 f, .int .u32 t, .int .i64 sl, .int .i64 ss, .bool false, .str nk]] = some (.bool (mayX mayN f sl ss nk)) := by
  have ok := okP (fun j => if j = 0 then f else if j = 1 then t else if j = 2 then sl else ss) nk hl hb
  have h := pcall_outs ok (seOk2 ok) rfl rfl (Sat.nil _) (by rfl) outs13false
  simp only [AnyOf, satC, denVs, denV, lt_t, lt_f, eq_t, eq_f, pr_t, pr_f, denI, denS, denP, valP, subL, List.drop_zero, List.append_nil, if_true, Nat.one_ne_zero, Nat.reduceEqDiff, if_false] at h
  rcases h with h | h | h | h | h | h | h | h | h | h | h | h | h | h | h | h
  all_goals first
    | exact h.elim
    | (obtain ⟨h1, h2⟩ := h
       rw [h2]
       congr 2
       symm
       simp only [mayX, namedB, Bool.and_eq_true, Bool.or_eq_true, Bool.not_eq_true', decide_eq_true_eq, decide_eq_false_iff_not, Bool.and_eq_false_iff, Bool.or_eq_false_iff, Bool.not_eq_false', h1]
       first | omega | (simp; omega) | (simp [h1]; done) | (simp [h1]; omega))
theorem outs43true : outs (callQ S2 200 43 [.agg [.int .u32 (.var 0), .int .u32 (.var 1), .int .i64 (.var 2), .int .i64 (.var 3), .bool true, .str [.sub 0 0 none]]] sglob th0 []) = some [([(.eqI (.var 0) (.lit 0), true), (.eqI (.var 3) (.lit 1), true)], (.bool false)),
  ([(.eqI (.var 0) (.lit 4294967295), true), (.eqI (.var 0) (.lit 0), false), (.eqI (.var 3) (.lit 1), true)], (.bool false)),
  ([(.ltI (.var 2) (.lit (-1)), true), (.eqI (.var 0) (.lit 4294967295), false), (.eqI (.var 0) (.lit 0), false), (.eqI (.var 3) (.lit 1), true)], (.bool false)),
  ([(.pr 0 [.sub 0 0 none], true), (.ltI (.var 2) (.var 3), true), (.ltI (.var 2) (.lit (-1)), false), (.eqI (.var 0) (.lit 4294967295), false), (.eqI (.var 0) (.lit 0), false), (.eqI (.var 3) (.lit 1), true)], (.bool true)),
  ([(.pr 0 [.sub 0 0 none], false), (.ltI (.var 2) (.var 3), true), (.ltI (.var 2) (.lit (-1)), false), (.eqI (.var 0) (.lit 4294967295), false), (.eqI (.var 0) (.lit 0), false), (.eqI (.var 3) (.lit 1), true)], (.bool false)),
  ([(.ltI (.var 2) (.var 3), false), (.ltI (.var 2) (.lit (-1)), false), (.eqI (.var 0) (.lit 4294967295), false), (.eqI (.var 0) (.lit 0), false), (.eqI (.var 3) (.lit 1), true)], (.bool false)),
  ([(.eqI (.var 0) (.lit 0), true), (.eqI (.var 3) (.lit 6), true), (.eqI (.var 3) (.lit 1), false)], (.bool false)),
  ([(.eqI (.var 0) (.lit 4294967295), true), (.eqI (.var 0) (.lit 0), false), (.eqI (.var 3) (.lit 6), true), (.eqI (.var 3) (.lit 1), false)], (.bool false)),
  ([(.ltI (.var 2) (.lit (-1)), true), (.eqI (.var 0) (.lit 4294967295), false), (.eqI (.var 0) (.lit 0), false), (.eqI (.var 3) (.lit 6), true), (.eqI (.var 3) (.lit 1), false)], (.bool false)),
  ([(.pr 0 [.sub 0 0 none], true), (.ltI (.var 2) (.var 3), true), (.ltI (.var 2) (.lit (-1)), false), (.eqI (.var 0) (.lit 4294967295), false), (.eqI (.var 0) (.lit 0), false), (.eqI (.var 3) (.lit 6), true), (.eqI (.var 3) (.lit 1), false)], (.bool true)),
  ([(.pr 0 [.sub 0 0 none], false), (.ltI (.var 2) (.var 3), true), (.ltI (.var 2) (.lit (-1)), false), (.eqI (.var 0) (.lit 4294967295), false), (.eqI (.var 0) (.lit 0), false), (.eqI (.var 3) (.lit 6), true), (.eqI (.var 3) (.lit 1), false)], (.bool false)),
  ([(.ltI (.var 2) (.var 3), false), (.ltI (.var 2) (.lit (-1)), false), (.eqI (.var 0) (.lit 4294967295), false), (.eqI (.var 0) (.lit 0), false), (.eqI (.var 3) (.lit 6), true), (.eqI (.var 3) (.lit 1), false)], (.bool false)),
  ([(.eqI (.var 0) (.lit 0), true), (.eqI (.var 3) (.lit 8), true), (.eqI (.var 3) (.lit 6), false), (.eqI (.var 3) (.lit 1), false)], (.bool false)),
  ([(.eqI (.var 0) (.lit 4294967295), true), (.eqI (.var 0) (.lit 0), false), (.eqI (.var 3) (.lit 8), true), (.eqI (.var 3) (.lit 6), false), (.eqI (.var 3) (.lit 1), false)], (.bool false)),
  ([(.ltI (.var 2) (.lit (-1)), true), (.eqI (.var 0) (.lit 4294967295), false), (.eqI (.var 0) (.lit 0), false), (.eqI (.var 3) (.lit 8), true), (.eqI (.var 3) (.lit 6), false), (.eqI (.var 3) (.lit 1), false)], (.bool false)),
  ([(.pr 0 [.sub 0 0 none], true), (.ltI (.var 2) (.var 3), true), (.ltI (.var 2) (.lit (-1)), false), (.eqI (.var 0) (.lit 4294967295), false), (.eqI (.var 0) (.lit 0), false), (.eqI (.var 3) (.lit 8), true), (.eqI (.var 3) (.lit 6), false), (.eqI (.var 3) (.lit 1), false)], (.bool true)),
  ([(.pr 0 [.sub 0 0 none], false), (.ltI (.var 2) (.var 3), true), (.ltI (.var 2) (.lit (-1)), false), (.eqI (.var 0) (.lit 4294967295), false), (.eqI (.var 0) (.lit 0), false), (.eqI (.var 3) (.lit 8), true), (.eqI (.var 3) (.lit 6), false), (.eqI (.var 3) (.lit 1), false)], (.bool false)),
  ([(.ltI (.var 2) (.var 3), false), (.ltI (.var 2) (.lit (-1)), false), (.eqI (.var 0) (.lit 4294967295), false), (.eqI (.var 0) (.lit 0), false), (.eqI (.var 3) (.lit 8), true), (.eqI (.var 3) (.lit 6), false), (.eqI (.var 3) (.lit 1), false)], (.bool false)),
  ([(.eqI (.var 0) (.lit 0), true), (.eqI (.var 3) (.lit 8), false), (.eqI (.var 3) (.lit 6), false), (.eqI (.var 3) (.lit 1), false)], (.bool false)),
  ([(.eqI (.var 0) (.lit 4294967295), true), (.eqI (.var 0) (.lit 0), false), (.eqI (.var 3) (.lit 8), false), (.eqI (.var 3) (.lit 6), false), (.eqI (.var 3) (.lit 1), false)], (.bool false)),
  ([(.eqI (.var 0) (.lit 4294967295), false), (.eqI (.var 0) (.lit 0), false), (.eqI (.var 3) (.lit 8), false), (.eqI (.var 3) (.lit 6), false), (.eqI (.var 3) (.lit 1), false)], (.bool false))] := by kernel_rfl
theorem xid43true (f t sl ss : Int) (nk : List Nat) (hl : nk.length ≤ 2 ^ 50) (hb : ∀ x ∈ nk, x < 256) :
    pcall E2 200 43 [.agg [.int .u32 f, .int .u32 t, .int .i64 sl, .int .i64 ss, .bool true, .str nk]] = some (.bool (mayX mayN f sl ss nk)) := by
  have ok := okP (fun j => if j = 0 then f else if j = 1 then t else if j = 2 then sl else ss) nk hl hb
  have h := pcall_outs ok (seOk2 ok) rfl rfl (Sat.nil _) (by rfl) outs43true
  simp only [AnyOf, satC, denVs, denV, lt_t, lt_f, eq_t, eq_f, pr_t, pr_f, denI, denS, denP, valP, subL, List.drop_zero, List.append_nil, if_true, Nat.one_ne_zero, Nat.reduceEqDiff, if_false] at h
  rcases h with h | h | h | h | h | h | h | h | h | h | h | h | h | h | h | h | h | h | h | h | h | h
  all_goals first
    | exact h.elim
    | (obtain ⟨h1, h2⟩ := h
       rw [h2]
       congr 2
       symm
       simp only [mayX, namedB, Bool.and_eq_true, Bool.or_eq_true, Bool.not_eq_true', decide_eq_true_eq, decide_eq_false_iff_not, Bool.and_eq_false_iff, Bool.or_eq_false_iff, Bool.not_eq_false', h1]
       first | omega | (simp; omega) | (simp [h1]; done) | (simp [h1]; omega))
theorem outs13true : outs (callQ S2 200 13 [.agg [.int .u32 (.var 0), .int .u32 (.var 1), .int .i64 (.var 2), .int .i64 (.var 3), .bool true, .str [.sub 0 0 none]]] sglob th0 []) = some [([(.eqI (.var 0) (.lit 0), true)], (.bool false)),
  ([(.eqI (.var 0) (.lit 4294967295), true), (.eqI (.var 0) (.lit 0), false)], (.bool false)),
  ([(.ltI (.var 2) (.lit (-1)), true), (.eqI (.var 3) (.lit 1), true), (.eqI (.var 0) (.lit 4294967295), false), (.eqI (.var 0) (.lit 0), false)], (.bool false)),
  ([(.pr 0 [.sub 0 0 none], true), (.ltI (.var 2) (.var 3), true), (.ltI (.var 2) (.lit (-1)), false), (.eqI (.var 3) (.lit 1), true), (.eqI (.var 0) (.lit 4294967295), false), (.eqI (.var 0) (.lit 0), false)], (.bool true)),
  ([(.pr 0 [.sub 0 0 none], false), (.ltI (.var 2) (.var 3), true), (.ltI (.var 2) (.lit (-1)), false), (.eqI (.var 3) (.lit 1), true), (.eqI (.var 0) (.lit 4294967295), false), (.eqI (.var 0) (.lit 0), false)], (.bool false)),
  ([(.ltI (.var 2) (.var 3), false), (.ltI (.var 2) (.lit (-1)), false), (.eqI (.var 3) (.lit 1), true), (.eqI (.var 0) (.lit 4294967295), false), (.eqI (.var 0) (.lit 0), false)], (.bool false)),
  ([(.ltI (.var 2) (.lit (-1)), true), (.eqI (.var 3) (.lit 6), true), (.eqI (.var 3) (.lit 1), false), (.eqI (.var 0) (.lit 4294967295), false), (.eqI (.var 0) (.lit 0), false)], (.bool false)),
  ([(.pr 0 [.sub 0 0 none], true), (.ltI (.var 2) (.var 3), true), (.ltI (.var 2) (.lit (-1)), false), (.eqI (.var 3) (.lit 6), true), (.eqI (.var 3) (.lit 1), false), (.eqI (.var 0) (.lit 4294967295), false), (.eqI (.var 0) (.lit 0), false)], (.bool true)),
  ([(.pr 0 [.sub 0 0 none], false), (.ltI (.var 2) (.var 3), true), (.ltI (.var 2) (.lit (-1)), false), (.eqI (.var 3) (.lit 6), true), (.eqI (.var 3) (.lit 1), false), (.eqI (.var 0) (.lit 4294967295), false), (.eqI (.var 0) (.lit 0), false)], (.bool false)),
  ([(.ltI (.var 2) (.var 3), false), (.ltI (.var 2) (.lit (-1)), false), (.eqI (.var 3) (.lit 6), true), (.eqI (.var 3) (.lit 1), false), (.eqI (.var 0) (.lit 4294967295), false), (.eqI (.var 0) (.lit 0), false)], (.bool false)),
  ([(.ltI (.var 2) (.lit (-1)), true), (.eqI (.var 3) (.lit 8), true), (.eqI (.var 3) (.lit 6), false), (.eqI (.var 3) (.lit 1), false), (.eqI (.var 0) (.lit 4294967295), false), (.eqI (.var 0) (.lit 0), false)], (.bool false)),
  ([(.pr 0 [.sub 0 0 none], true), (.ltI (.var 2) (.var 3), true), (.ltI (.var 2) (.lit (-1)), false), (.eqI (.var 3) (.lit 8), true), (.eqI (.var 3) (.lit 6), false), (.eqI (.var 3) (.lit 1), false), (.eqI (.var 0) (.lit 4294967295), false), (.eqI (.var 0) (.lit 0), false)], (.bool true)),
  ([(.pr 0 [.sub 0 0 none], false), (.ltI (.var 2) (.var 3), true), (.ltI (.var 2) (.lit (-1)), false), (.eqI (.var 3) (.lit 8), true), (.eqI (.var 3) (.lit 6), false), (.eqI (.var 3) (.lit 1), false), (.eqI (.var 0) (.lit 4294967295), false), (.eqI (.var 0) (.lit 0), false)], (.bool false)),
  ([(.ltI (.var 2) (.var 3), false), (.ltI (.var 2) (.lit (-1)), false), (.eqI (.var 3) (.lit 8), true), (.eqI (.var 3) (.lit 6), false), (.eqI (.var 3) (.lit 1), false), (.eqI (.var 0) (.lit 4294967295), false), (.eqI (.var 0) (.lit 0), false)], (.bool false)),
  ([(.eqI (.var 3) (.lit 8), false), (.eqI (.var 3) (.lit 6), false), (.eqI (.var 3) (.lit 1), false), (.eqI (.var 0) (.lit 4294967295), false), (.eqI (.var 0) (.lit 0), false)], (.bool false))] := by kernel_rfl
theorem xid13true (f t sl ss : Int) (nk : List Nat) (hl : nk.length ≤ 2 ^ 50) (hb : ∀ x ∈ nk, x < 256) :
    pcall E2 200 13 [.agg [.int .u32 f, .int .u32 t, .int .i64 sl, .int .i64 ss, .bool true, .str nk]] = some (.bool (mayX mayN f sl ss nk)) := by
  have ok := okP (fun j => if j = 0 then f else if j = 1 then t else if j = 2 then sl else ss) nk hl hb
  have h := pcall_outs ok (seOk2 ok) rfl rfl (Sat.nil _) (by rfl) outs13true
  simp only [AnyOf, satC, denVs, denV, lt_t, lt_f, eq_t, eq_f, pr_t, pr_f, denI, denS, denP, valP, subL, List.drop_zero, List.append_nil, if_true, Nat.one_ne_zero, Nat.reduceEqDiff, if_false] at h
  rcases h with h | h | h | h | h | h | h | h | h | h | h | h | h | h | h | h
  all_goals first
    | exact h.elim
    | (obtain ⟨h1, h2⟩ := h
       rw [h2]
       congr 2
       symm
       simp only [mayX, namedB, Bool.and_eq_true, Bool.or_eq_true, Bool.not_eq_true', decide_eq_true_eq, decide_eq_false_iff_not, Bool.and_eq_false_iff, Bool.or_eq_false_iff, Bool.not_eq_false', h1]
       first | omega | (simp; omega) | (simp [h1]; done) | (simp [h1]; omega))
theorem outs57 : outs (callQ S2 60 57 [.int .u32 (.var 0)] sglob th0 []) = some [([(.eqI (.var 0) (.lit 0), true)], (.bool false)),
  ([(.eqI (.var 0) (.lit 4294967295), true), (.eqI (.var 0) (.lit 0), false)], (.bool false)),
  ([(.eqI (.var 0) (.lit 4294967295), false), (.eqI (.var 0) (.lit 0), false)], (.bool true))] := by kernel_rfl
theorem named57 (x : Int) : pcall E2 60 57 [.int .u32 x] = some (.bool (namedB x)) := by
  have ok := okP (fun _ => x) [] (by simp) (by simp)
  have h := pcall_outs ok (seOk2 ok) rfl rfl (Sat.nil _) (by rfl) outs57
  simp only [AnyOf, satC, denVs, denV, lt_t, lt_f, eq_t, eq_f, denI, valP] at h
  rcases h with h | h | h | h
  all_goals first
    | exact h.elim
    | (obtain ⟨h1, h2⟩ := h; rw [h2]; congr 2; symm; simp [namedB, h1])
theorem outs18 : outs (callQ S2 60 18 [.int .u32 (.var 0)] sglob th0 []) = some [([(.eqI (.var 0) (.lit 0), true)], (.bool false)),
  ([(.eqI (.var 0) (.lit 4294967295), true), (.eqI (.var 0) (.lit 0), false)], (.bool false)),
  ([(.eqI (.var 0) (.lit 4294967295), false), (.eqI (.var 0) (.lit 0), false)], (.bool true))] := by kernel_rfl
theorem named18 (x : Int) : pcall E2 60 18 [.int .u32 x] = some (.bool (namedB x)) := by
  have ok := okP (fun _ => x) [] (by simp) (by simp)
  have h := pcall_outs ok (seOk2 ok) rfl rfl (Sat.nil _) (by rfl) outs18
  simp only [AnyOf, satC, denVs, denV, lt_t, lt_f, eq_t, eq_f, denI, valP] at h
  rcases h with h | h | h | h
  all_goals first
    | exact h.elim
    | (obtain ⟨h1, h2⟩ := h; rw [h2]; congr 2; symm; simp [namedB, h1])
end Go.Proofs.YtdalcnjdpfnjjaaGreatDoor
