/- What is known of this program: the closed call, names, numbers, who is there. -/
import Derived.Test.YtdalcnjdpfnjjaaGreatDoorNickC
import Derived.Test.YtdalcnjdpfnjjaaGreatDoorKnow
import Derived.Test.YtdalcnjdpfnjjaaGreatDoorRowA
set_option linter.unusedSimpArgs false
set_option linter.unusedVariables false
namespace Go.Proofs.YtdalcnjdpfnjjaaGreatDoor
open Go Go.Ev
set_option maxRecDepth 100000
/-- What the tests stand for. -/
def valP (i : Nat → Int) (s : Nat → List Nat) : Val := { i := i, s := s, b := fun _ => false, p := fun k => if k = 0 then mayN else if k = 1 then mayXl mayN else fun _ => false }
noncomputable def kl2 : List (Nat × (List V → Option V)) := [(8, kTrue), (45, kStr mayN), (44, kStr mayN)]
noncomputable def sl2 : List (Nat × (List SV → SM SV)) := [(8, kTrueS), (45, kStrS 0), (44, kStrS 0)]
theorem kt2 : KnTie Tryz.prog glob kl2 := by
  refine .cons ?_ (.cons ?_ (.cons ?_ .nil))
  · intro args v h
    cases args with
    | nil => simp [kTrue] at h; subst h; exact pcall_good tieE 100000 8 [] _ begun_true
    | cons a r => simp [kTrue] at h
  · intro args v h
    unfold kStr at h
    split at h
    · split at h
      · rename_i s hs
        injection h with h; subst h
        exact pcall_good tieE1 _ 45 _ _ (nick_may s hs.2)
      · simp at h
    · simp at h
  · intro args v h
    unfold kStr at h
    split at h
    · split at h
      · rename_i s hs
        injection h with h; subst h
        exact pcall_good tieE1 _ 44 _ _ (ref_may s hs.1 hs.2)
      · simp at h
    · simp at h
noncomputable def E2 : Env := { fn := E.fn, known := assoc kl2, glob := E.glob }
noncomputable def S2 : SEnv := { fn := S1.fn, known := assoc sl2, glob := S1.glob }
theorem tieE2 : Tie Tryz.prog Co.pureF E2 := kt2.tie tieE
theorem seOk2 {i : Nat → Int} {s : Nat → List Nat} {Th : Thy} (ok : (valP i s).Ok Th) : S2.Ok (valP i s) Th E2 :=
  KnSym.ok (seOk1 (valP i s) Th) (.cons kTrue_ok (.cons (kStr_ok ok rfl) (.cons (kStr_ok ok rfl) .nil)))
theorem okP (i : Nat → Int) (t : List Nat) (hl : t.length ≤ 2 ^ 50) (hb : ∀ x ∈ t, x < 256) : (valP i (fun _ => t)).Ok th0 := ⟨fun _ => hl, fun _ x h => hb x h, fun _ h => by simp at h, fun _ h => by simp at h, fun _ h => by simp at h⟩
theorem outs43false : outs (callQ S2 200 43 [.agg [.int .u32 (.var 0), .int .u32 (.var 1), .int .i64 (.var 2), .int .i64 (.var 3), .bool false, .str [.sub 0 0 none]]] sglob th0 []) = some [([(.eqI (.var 0) (.lit 0), true), (.eqI (.var 3) (.lit 1), true)], (.bool false)),
  ([(.eqI (.var 0) (.lit 4294967295), true), (.eqI (.var 0) (.lit 0), false), (.eqI (.var 3) (.lit 1), true)], (.bool false)),
  ([(.ltI (.var 2) (.lit (-1)), true), (.eqI (.var 0) (.lit 4294967295), false), (.eqI (.var 0) (.lit 0), false), (.eqI (.var 3) (.lit 1), true)], (.bool false)),
  ([(.pr 0 [.sub 0 0 none], true), (.ltI (.var 2) (.var 3), true), (.ltI (.var 2) (.lit (-1)), false), (.eqI (.var 0) (.lit 4294967295), false), (.eqI (.var 0) (.lit 0), false), (.eqI (.var 3) (.lit 1), true)], (.bool true)),
  ([(.pr 0 [.sub 0 0 none], false), (.ltI (.var 2) (.var 3), true), (.ltI (.var 2) (.lit (-1)), false), (.eqI (.var 0) (.lit 4294967295), false), (.eqI (.var 0) (.lit 0), false), (.eqI (.var 3) (.lit 1), true)], (.bool false)),
  ([(.ltI (.var 2) (.var 3), false), (.ltI (.var 2) (.lit (-1)), false), (.eqI (.var 0) (.lit 4294967295), false), (.eqI (.var 0) (.lit 0), false), (.eqI (.var 3) (.lit 1), true)], (.bool false)),
  ([(.eqI (.var 0) (.lit 0), true), (.eqI (.var 3) (.lit 6), true), (.eqI (.var 3) (.lit 1), false)], (.bool false)),
  ([(.eqI (.var 0) (.lit 4294967295), true), (.eqI (.var 0) (.lit 0), false), (.eqI (.var 3) (.lit 6), true), (.eqI (.var 3) (.lit 1), false)], (.bool false)),
  ([(.ltI (.var 2) (.lit (-1)), true), (.eqI (.var 0) (.lit 4294967295), false), (.eqI (.var 0) (.lit 0), false), (.eqI (.var 3) (.lit 6), true), (.eqI (.var 3) (.lit 1), false)], (.bool false)),
  ([(.pr 0 [.sub 0 0 none], true), (.ltI (.var 2) (.var 3), true), (.ltI (.var 2) (.lit (-1)), false), (.eqI (.var 0) (.lit 4294967295), false), (.eqI (.var 0) (.lit 0), false), (.eqI (.var 3) (.lit 6), true), (.eqI (.var 3) (.lit 1), false)], (.bool true)),
  ([(.pr 0 [.sub 0 0 none], false), (.ltI (.var 2) (.var 3), true), (.ltI (.var 2) (.lit (-1)), false), (.eqI (.var 0) (.lit 4294967295), false), (.eqI (.var 0) (.lit 0), false), (.eqI (.var 3) (.lit 6), true), (.eqI (.var 3) (.lit 1), false)], (.bool false)),
  ([(.ltI (.var 2) (.var 3), false), (.ltI (.var 2) (.lit (-1)), false), (.eqI (.var 0) (.lit 4294967295), false), (.eqI (.var 0) (.lit 0), false), (.eqI (.var 3) (.lit 6), true), (.eqI (.var 3) (.lit 1), false)], (.bool false)),
  ([(.eqI (.var 0) (.lit 0), true), (.eqI (.var 3) (.lit 8), true), (.eqI (.var 3) (.lit 6), false), (.eqI (.var 3) (.lit 1), false)], (.bool false)),
  ([(.eqI (.var 0) (.lit 4294967295), true), (.eqI (.var 0) (.lit 0), false), (.eqI (.var 3) (.lit 8), true), (.eqI (.var 3) (.lit 6), false), (.eqI (.var 3) (.lit 1), false)], (.bool false)),
  ([(.ltI (.var 2) (.lit (-1)), true), (.eqI (.var 0) (.lit 4294967295), false), (.eqI (.var 0) (.lit 0), false), (.eqI (.var 3) (.lit 8), true), (.eqI (.var 3) (.lit 6), false), (.eqI (.var 3) (.lit 1), false)], (.bool false)),
  ([(.pr 0 [.sub 0 0 none], true), (.ltI (.var 2) (.var 3), true), (.ltI (.var 2) (.lit (-1)), false), (.eqI (.var 0) (.lit 4294967295), false), (.eqI (.var 0) (.lit 0), false), (.eqI (.var 3) (.lit 8), true), (.eqI (.var 3) (.lit 6), false), (.eqI (.var 3) (.lit 1), false)], (.bool true)),
  ([(.pr 0 [.sub 0 0 none], false), (.ltI (.var 2) (.var 3), true), (.ltI (.var 2) (.lit (-1)), false), (.eqI (.var 0) (.lit 4294967295), false), (.eqI (.var 0) (.lit 0), false), (.eqI (.var 3) (.lit 8), true), (.eqI (.var 3) (.lit 6), false), (.eqI (.var 3) (.lit 1), false)], (.bool false)),
  ([(.ltI (.var 2) (.var 3), false), (.ltI (.var 2) (.lit (-1)), false), (.eqI (.var 0) (.lit 4294967295), false), (.eqI (.var 0) (.lit 0), false), (.eqI (.var 3) (.lit 8), true), (.eqI (.var 3) (.lit 6), false), (.eqI (.var 3) (.lit 1), false)], (.bool false)),
  ([(.eqI (.var 0) (.lit 0), true), (.eqI (.var 3) (.lit 8), false), (.eqI (.var 3) (.lit 6), false), (.eqI (.var 3) (.lit 1), false)], (.bool false)),
  ([(.eqI (.var 0) (.lit 4294967295), true), (.eqI (.var 0) (.lit 0), false), (.eqI (.var 3) (.lit 8), false), (.eqI (.var 3) (.lit 6), false), (.eqI (.var 3) (.lit 1), false)], (.bool false)),
  ([(.eqI (.var 0) (.lit 4294967295), false), (.eqI (.var 0) (.lit 0), false), (.eqI (.var 3) (.lit 8), false), (.eqI (.var 3) (.lit 6), false), (.eqI (.var 3) (.lit 1), false)], (.bool false))] := by kernel_rfl
theorem xid43false (f t sl ss : Int) (nk : List Nat) (hl : nk.length ≤ 2 ^ 50) (hb : ∀ x ∈ nk, x < 256) :
    pcall E2 200 43 [.agg [.int .u32 f, .int .u32 t, .int .i64 sl, .int .i64 ss, .bool false, .str nk]] = some (.bool (mayX mayN f sl ss nk)) := by
  have ok := okP (fun j => if j = 0 then f else if j = 1 then t else if j = 2 then sl else ss) nk hl hb
  have h := pcall_outs ok (seOk2 ok) rfl rfl (Sat.nil _) (by rfl) outs43false
  simp only [AnyOf, satC, denVs, denV, lt_t, lt_f, eq_t, eq_f, pr_t, pr_f, denI, denS, denP, valP, subL, List.drop_zero, List.append_nil, if_true, Nat.one_ne_zero, Nat.reduceEqDiff, if_false] at h
  rcases h with h | h | h | h | h | h | h | h | h | h | h | h | h | h | h | h | h | h | h | h | h | h
  all_goals first
    | exact h.elim
    | (obtain ⟨h1, h2⟩ := h
       rw [h2]
       congr 2
       symm
       simp only [mayX, namedB, Bool.and_eq_true, Bool.or_eq_true, Bool.not_eq_true', decide_eq_true_eq, decide_eq_false_iff_not, Bool.and_eq_false_iff, Bool.or_eq_false_iff, Bool.not_eq_false', h1]
       first | omega | (simp; omega) | (simp [h1]; done) | (simp [h1]; omega))
theorem outs13false : outs (callQ S2 200 13 [.agg [.int .u32 (.var 0), .int .u32 (.var 1), .int .i64 (.var 2), .int .i64 (.var 3), .bool false, .str [.sub 0 0 none]]] sglob th0 []) = some [([(.eqI (.var 0) (.lit 0), true)], (.bool false)),
  ([(.eqI (.var 0) (.lit 4294967295), true), (.eqI (.var 0) (.lit 0), false)], (.bool false)),
  ([(.ltI (.var 2) (.lit (-1)), true), (.eqI (.var 3) (.lit 1), true), (.eqI (.var 0) (.lit 4294967295), false), (.eqI (.var 0) (.lit 0), false)], (.bool false)),
  ([(.pr 0 [.sub 0 0 none], true), (.ltI (.var 2) (.var 3), true), (.ltI (.var 2) (.lit (-1)), false), (.eqI (.var 3) (.lit 1), true), (.eqI (.var 0) (.lit 4294967295), false), (.eqI (.var 0) (.lit 0), false)], (.bool true)),
  ([(.pr 0 [.sub 0 0 none], false), (.ltI (.var 2) (.var 3), true), (.ltI (.var 2) (.lit (-1)), false), (.eqI (.var 3) (.lit 1), true), (.eqI (.var 0) (.lit 4294967295), false), (.eqI (.var 0) (.lit 0), false)], (.bool false)),
  ([(.ltI (.var 2) (.var 3), false), (.ltI (.var 2) (.lit (-1)), false), (.eqI (.var 3) (.lit 1), true), (.eqI (.var 0) (.lit 4294967295), false), (.eqI (.var 0) (.lit 0), false)], (.bool false)),
  ([(.ltI (.var 2) (.lit (-1)), true), (.eqI (.var 3) (.lit 6), true), (.eqI (.var 3) (.lit 1), false), (.eqI (.var 0) (.lit 4294967295), false), (.eqI (.var 0) (.lit 0), false)], (.bool false)),
  ([(.pr 0 [.sub 0 0 none], true), (.ltI (.var 2) (.var 3), true), (.ltI (.var 2) (.lit (-1)), false), (.eqI (.var 3) (.lit 6), true), (.eqI (.var 3) (.lit 1), false), (.eqI (.var 0) (.lit 4294967295), false), (.eqI (.var 0) (.lit 0), false)], (.bool true)),
  ([(.pr 0 [.sub 0 0 none], false), (.ltI (.var 2) (.var 3), true), (.ltI (.var 2) (.lit (-1)), false), (.eqI (.var 3) (.lit 6), true), (.eqI (.var 3) (.lit 1), false), (.eqI (.var 0) (.lit 4294967295), false), (.eqI (.var 0) (.lit 0), false)], (.bool false)),
  ([(.ltI (.var 2) (.var 3), false), (.ltI (.var 2) (.lit (-1)), false), (.eqI (.var 3) (.lit 6), true), (.eqI (.var 3) (.lit 1), false), (.eqI (.var 0) (.lit 4294967295), false), (.eqI (.var 0) (.lit 0), false)], (.bool false)),
  ([(.ltI (.var 2) (.lit (-1)), true), (.eqI (.var 3) (.lit 8), true), (.eqI (.var 3) (.lit 6), false), (.eqI (.var 3) (.lit 1), false), (.eqI (.var 0) (.lit 4294967295), false), (.eqI (.var 0) (.lit 0), false)], (.bool false)),
  ([(.pr 0 [.sub 0 0 none], true), (.ltI (.var 2) (.var 3), true), (.ltI (.var 2) (.lit (-1)), false), (.eqI (.var 3) (.lit 8), true), (.eqI (.var 3) (.lit 6), false), (.eqI (.var 3) (.lit 1), false), (.eqI (.var 0) (.lit 4294967295), false), (.eqI (.var 0) (.lit 0), false)], (.bool true)),
  ([(.pr 0 [.sub 0 0 none], false), (.ltI (.var 2) (.var 3), true), (.ltI (.var 2) (.lit (-1)), false), (.eqI (.var 3) (.lit 8), true), (.eqI (.var 3) (.lit 6), false), (.eqI (.var 3) (.lit 1), false), (.eqI (.var 0) (.lit 4294967295), false), (.eqI (.var 0) (.lit 0), false)], (.bool false)),
  ([(.ltI (.var 2) (.var 3), false), (.ltI (.var 2) (.lit (-1)), false), (.eqI (.var 3) (.lit 8), true), (.eqI (.var 3) (.lit 6), false), (.eqI (.var 3) (.lit 1), false), (.eqI (.var 0) (.lit 4294967295), false), (.eqI (.var 0) (.lit 0), false)], (.bool false)),
  ([(.eqI (.var 3) (.lit 8), false), (.eqI (.var 3) (.lit 6), false), (.eqI (.var 3) (.lit 1), false), (.eqI (.var 0) (.lit 4294967295), false), (.eqI (.var 0) (.lit 0), false)], (.bool false))] := by kernel_rfl
theorem xid13false (f t sl ss : Int) (nk : List Nat) (hl : nk.length ≤ 2 ^ 50) (hb : ∀ x ∈ nk, x < 256) :
    pcall E2 200 13 [.agg [.int .u32 f, .int .u32 t, .int .i64 sl, .int .i64 ss, .bool false, .str nk]] = some (.bool (mayX mayN f sl ss nk)) := by
  have ok := okP (fun j => if j = 0 then f else if j = 1 then t else if j = 2 then sl else ss) nk hl hb
  have h := pcall_outs ok (seOk2 ok) rfl rfl (Sat.nil _) (by rfl) outs13false
  simp only [AnyOf, satC, denVs, denV, lt_t, lt_f, eq_t, eq_f, pr_t, pr_f, denI, denS, denP, valP, subL, List.drop_zero, List.append_nil, if_true, Nat.one_ne_zero, Nat.reduceEqDiff, if_false] at h
  rcases h with h | h | h | h | h | h | h | h | h | h | h | h | h | h | h | h
  all_goals first
    | exact h.elim
    | (obtain ⟨h1, h2⟩ := h
       rw [h2]
       congr 2
       symm
       simp only [mayX, namedB, Bool.and_eq_true, Bool.or_eq_true, Bool.not_eq_true', decide_eq_true_eq, decide_eq_false_iff_not, Bool.and_eq_false_iff, Bool.or_eq_false_iff, Bool.not_eq_false', h1]
       first | omega | (simp; omega) | (simp [h1]; done) | (simp [h1]; omega))
theorem outs43true : outs (callQ S2 200 43 [.agg [.int .u32 (.var 0), .int .u32 (.var 1), .int .i64 (.var 2), .int .i64 (.var 3), .bool true, .str [.sub 0 0 none]]] sglob th0 []) = some [([(.eqI (.var 0) (.lit 0), true), (.eqI (.var 3) (.lit 1), true)], (.bool false)),
  ([(.eqI (.var 0) (.lit 4294967295), true), (.eqI (.var 0) (.lit 0), false), (.eqI (.var 3) (.lit 1), true)], (.bool false)),
  ([(.ltI (.var 2) (.lit (-1)), true), (.eqI (.var 0) (.lit 4294967295), false), (.eqI (.var 0) (.lit 0), false), (.eqI (.var 3) (.lit 1), true)], (.bool false)),
  ([(.pr 0 [.sub 0 0 none], true), (.ltI (.var 2) (.var 3), true), (.ltI (.var 2) (.lit (-1)), false), (.eqI (.var 0) (.lit 4294967295), false), (.eqI (.var 0) (.lit 0), false), (.eqI (.var 3) (.lit 1), true)], (.bool true)),
  ([(.pr 0 [.sub 0 0 none], false), (.ltI (.var 2) (.var 3), true), (.ltI (.var 2) (.lit (-1)), false), (.eqI (.var 0) (.lit 4294967295), false), (.eqI (.var 0) (.lit 0), false), (.eqI (.var 3) (.lit 1), true)], (.bool false)),
  ([(.ltI (.var 2) (.var 3), false), (.ltI (.var 2) (.lit (-1)), false), (.eqI (.var 0) (.lit 4294967295), false), (.eqI (.var 0) (.lit 0), false), (.eqI (.var 3) (.lit 1), true)], (.bool false)),
  ([(.eqI (.var 0) (.lit 0), true), (.eqI (.var 3) (.lit 6), true), (.eqI (.var 3) (.lit 1), false)], (.bool false)),
  ([(.eqI (.var 0) (.lit 4294967295), true), (.eqI (.var 0) (.lit 0), false), (.eqI (.var 3) (.lit 6), true), (.eqI (.var 3) (.lit 1), false)], (.bool false)),
  ([(.ltI (.var 2) (.lit (-1)), true), (.eqI (.var 0) (.lit 4294967295), false), (.eqI (.var 0) (.lit 0), false), (.eqI (.var 3) (.lit 6), true), (.eqI (.var 3) (.lit 1), false)], (.bool false)),
  ([(.pr 0 [.sub 0 0 none], true), (.ltI (.var 2) (.var 3), true), (.ltI (.var 2) (.lit (-1)), false), (.eqI (.var 0) (.lit 4294967295), false), (.eqI (.var 0) (.lit 0), false), (.eqI (.var 3) (.lit 6), true), (.eqI (.var 3) (.lit 1), false)], (.bool true)),
  ([(.pr 0 [.sub 0 0 none], false), (.ltI (.var 2) (.var 3), true), (.ltI (.var 2) (.lit (-1)), false), (.eqI (.var 0) (.lit 4294967295), false), (.eqI (.var 0) (.lit 0), false), (.eqI (.var 3) (.lit 6), true), (.eqI (.var 3) (.lit 1), false)], (.bool false)),
  ([(.ltI (.var 2) (.var 3), false), (.ltI (.var 2) (.lit (-1)), false), (.eqI (.var 0) (.lit 4294967295), false), (.eqI (.var 0) (.lit 0), false), (.eqI (.var 3) (.lit 6), true), (.eqI (.var 3) (.lit 1), false)], (.bool false)),
  ([(.eqI (.var 0) (.lit 0), true), (.eqI (.var 3) (.lit 8), true), (.eqI (.var 3) (.lit 6), false), (.eqI (.var 3) (.lit 1), false)], (.bool false)),
  ([(.eqI (.var 0) (.lit 4294967295), true), (.eqI (.var 0) (.lit 0), false), (.eqI (.var 3) (.lit 8), true), (.eqI (.var 3) (.lit 6), false), (.eqI (.var 3) (.lit 1), false)], (.bool false)),
  ([(.ltI (.var 2) (.lit (-1)), true), (.eqI (.var 0) (.lit 4294967295), false), (.eqI (.var 0) (.lit 0), false), (.eqI (.var 3) (.lit 8), true), (.eqI (.var 3) (.lit 6), false), (.eqI (.var 3) (.lit 1), false)], (.bool false)),
  ([(.pr 0 [.sub 0 0 none], true), (.ltI (.var 2) (.var 3), true), (.ltI (.var 2) (.lit (-1)), false), (.eqI (.var 0) (.lit 4294967295), false), (.eqI (.var 0) (.lit 0), false), (.eqI (.var 3) (.lit 8), true), (.eqI (.var 3) (.lit 6), false), (.eqI (.var 3) (.lit 1), false)], (.bool true)),
  ([(.pr 0 [.sub 0 0 none], false), (.ltI (.var 2) (.var 3), true), (.ltI (.var 2) (.lit (-1)), false), (.eqI (.var 0) (.lit 4294967295), false), (.eqI (.var 0) (.lit 0), false), (.eqI (.var 3) (.lit 8), true), (.eqI (.var 3) (.lit 6), false), (.eqI (.var 3) (.lit 1), false)], (.bool false)),
  ([(.ltI (.var 2) (.var 3), false), (.ltI (.var 2) (.lit (-1)), false), (.eqI (.var 0) (.lit 4294967295), false), (.eqI (.var 0) (.lit 0), false), (.eqI (.var 3) (.lit 8), true), (.eqI (.var 3) (.lit 6), false), (.eqI (.var 3) (.lit 1), false)], (.bool false)),
  ([(.eqI (.var 0) (.lit 0), true), (.eqI (.var 3) (.lit 8), false), (.eqI (.var 3) (.lit 6), false), (.eqI (.var 3) (.lit 1), false)], (.bool false)),
  ([(.eqI (.var 0) (.lit 4294967295), true), (.eqI (.var 0) (.lit 0), false), (.eqI (.var 3) (.lit 8), false), (.eqI (.var 3) (.lit 6), false), (.eqI (.var 3) (.lit 1), false)], (.bool false)),
  ([(.eqI (.var 0) (.lit 4294967295), false), (.eqI (.var 0) (.lit 0), false), (.eqI (.var 3) (.lit 8), false), (.eqI (.var 3) (.lit 6), false), (.eqI (.var 3) (.lit 1), false)], (.bool false))] := by kernel_rfl
theorem xid43true (f t sl ss : Int) (nk : List Nat) (hl : nk.length ≤ 2 ^ 50) (hb : ∀ x ∈ nk, x < 256) :
    pcall E2 200 43 [.agg [.int .u32 f, .int .u32 t, .int .i64 sl, .int .i64 ss, .bool true, .str nk]] = some (.bool (mayX mayN f sl ss nk)) := by
  have ok := okP (fun j => if j = 0 then f else if j = 1 then t else if j = 2 then sl else ss) nk hl hb
  have h := pcall_outs ok (seOk2 ok) rfl rfl (Sat.nil _) (by rfl) outs43true
  simp only [AnyOf, satC, denVs, denV, lt_t, lt_f, eq_t, eq_f, pr_t, pr_f, denI, denS, denP, valP, subL, List.drop_zero, List.append_nil, if_true, Nat.one_ne_zero, Nat.reduceEqDiff, if_false] at h
  rcases h with h | h | h | h | h | h | h | h | h | h | h | h | h | h | h | h | h | h | h | h | h | h
  all_goals first
    | exact h.elim
    | (obtain ⟨h1, h2⟩ := h
       rw [h2]
       congr 2
       symm
       simp only [mayX, namedB, Bool.and_eq_true, Bool.or_eq_true, Bool.not_eq_true', decide_eq_true_eq, decide_eq_false_iff_not, Bool.and_eq_false_iff, Bool.or_eq_false_iff, Bool.not_eq_false', h1]
       first | omega | (simp; omega) | (simp [h1]; done) | (simp [h1]; omega))
theorem outs13true : outs (callQ S2 200 13 [.agg [.int .u32 (.var 0), .int .u32 (.var 1), .int .i64 (.var 2), .int .i64 (.var 3), .bool true, .str [.sub 0 0 none]]] sglob th0 []) = some [([(.eqI (.var 0) (.lit 0), true)], (.bool false)),
  ([(.eqI (.var 0) (.lit 4294967295), true), (.eqI (.var 0) (.lit 0), false)], (.bool false)),
  ([(.ltI (.var 2) (.lit (-1)), true), (.eqI (.var 3) (.lit 1), true), (.eqI (.var 0) (.lit 4294967295), false), (.eqI (.var 0) (.lit 0), false)], (.bool false)),
  ([(.pr 0 [.sub 0 0 none], true), (.ltI (.var 2) (.var 3), true), (.ltI (.var 2) (.lit (-1)), false), (.eqI (.var 3) (.lit 1), true), (.eqI (.var 0) (.lit 4294967295), false), (.eqI (.var 0) (.lit 0), false)], (.bool true)),
  ([(.pr 0 [.sub 0 0 none], false), (.ltI (.var 2) (.var 3), true), (.ltI (.var 2) (.lit (-1)), false), (.eqI (.var 3) (.lit 1), true), (.eqI (.var 0) (.lit 4294967295), false), (.eqI (.var 0) (.lit 0), false)], (.bool false)),
  ([(.ltI (.var 2) (.var 3), false), (.ltI (.var 2) (.lit (-1)), false), (.eqI (.var 3) (.lit 1), true), (.eqI (.var 0) (.lit 4294967295), false), (.eqI (.var 0) (.lit 0), false)], (.bool false)),
  ([(.ltI (.var 2) (.lit (-1)), true), (.eqI (.var 3) (.lit 6), true), (.eqI (.var 3) (.lit 1), false), (.eqI (.var 0) (.lit 4294967295), false), (.eqI (.var 0) (.lit 0), false)], (.bool false)),
  ([(.pr 0 [.sub 0 0 none], true), (.ltI (.var 2) (.var 3), true), (.ltI (.var 2) (.lit (-1)), false), (.eqI (.var 3) (.lit 6), true), (.eqI (.var 3) (.lit 1), false), (.eqI (.var 0) (.lit 4294967295), false), (.eqI (.var 0) (.lit 0), false)], (.bool true)),
  ([(.pr 0 [.sub 0 0 none], false), (.ltI (.var 2) (.var 3), true), (.ltI (.var 2) (.lit (-1)), false), (.eqI (.var 3) (.lit 6), true), (.eqI (.var 3) (.lit 1), false), (.eqI (.var 0) (.lit 4294967295), false), (.eqI (.var 0) (.lit 0), false)], (.bool false)),
  ([(.ltI (.var 2) (.var 3), false), (.ltI (.var 2) (.lit (-1)), false), (.eqI (.var 3) (.lit 6), true), (.eqI (.var 3) (.lit 1), false), (.eqI (.var 0) (.lit 4294967295), false), (.eqI (.var 0) (.lit 0), false)], (.bool false)),
  ([(.ltI (.var 2) (.lit (-1)), true), (.eqI (.var 3) (.lit 8), true), (.eqI (.var 3) (.lit 6), false), (.eqI (.var 3) (.lit 1), false), (.eqI (.var 0) (.lit 4294967295), false), (.eqI (.var 0) (.lit 0), false)], (.bool false)),
  ([(.pr 0 [.sub 0 0 none], true), (.ltI (.var 2) (.var 3), true), (.ltI (.var 2) (.lit (-1)), false), (.eqI (.var 3) (.lit 8), true), (.eqI (.var 3) (.lit 6), false), (.eqI (.var 3) (.lit 1), false), (.eqI (.var 0) (.lit 4294967295), false), (.eqI (.var 0) (.lit 0), false)], (.bool true)),
  ([(.pr 0 [.sub 0 0 none], false), (.ltI (.var 2) (.var 3), true), (.ltI (.var 2) (.lit (-1)), false), (.eqI (.var 3) (.lit 8), true), (.eqI (.var 3) (.lit 6), false), (.eqI (.var 3) (.lit 1), false), (.eqI (.var 0) (.lit 4294967295), false), (.eqI (.var 0) (.lit 0), false)], (.bool false)),
  ([(.ltI (.var 2) (.var 3), false), (.ltI (.var 2) (.lit (-1)), false), (.eqI (.var 3) (.lit 8), true), (.eqI (.var 3) (.lit 6), false), (.eqI (.var 3) (.lit 1), false), (.eqI (.var 0) (.lit 4294967295), false), (.eqI (.var 0) (.lit 0), false)], (.bool false)),
  ([(.eqI (.var 3) (.lit 8), false), (.eqI (.var 3) (.lit 6), false), (.eqI (.var 3) (.lit 1), false), (.eqI (.var 0) (.lit 4294967295), false), (.eqI (.var 0) (.lit 0), false)], (.bool false))] := by kernel_rfl
theorem xid13true (f t sl ss : Int) (nk : List Nat) (hl : nk.length ≤ 2 ^ 50) (hb : ∀ x ∈ nk, x < 256) :
    pcall E2 200 13 [.agg [.int .u32 f, .int .u32 t, .int .i64 sl, .int .i64 ss, .bool true, .str nk]] = some (.bool (mayX mayN f sl ss nk)) := by
  have ok := okP (fun j => if j = 0 then f else if j = 1 then t else if j = 2 then sl else ss) nk hl hb
  have h := pcall_outs ok (seOk2 ok) rfl rfl (Sat.nil _) (by rfl) outs13true
  simp only [AnyOf, satC, denVs, denV, lt_t, lt_f, eq_t, eq_f, pr_t, pr_f, denI, denS, denP, valP, subL, List.drop_zero, List.append_nil, if_true, Nat.one_ne_zero, Nat.reduceEqDiff, if_false] at h
  rcases h with h | h | h | h | h | h | h | h | h | h | h | h | h | h | h | h
  all_goals first
    | exact h.elim
    | (obtain ⟨h1, h2⟩ := h
       rw [h2]
       congr 2
       symm
       simp only [mayX, namedB, Bool.and_eq_true, Bool.or_eq_true, Bool.not_eq_true', decide_eq_true_eq, decide_eq_false_iff_not, Bool.and_eq_false_iff, Bool.or_eq_false_iff, Bool.not_eq_false', h1]
       first | omega | (simp; omega) | (simp [h1]; done) | (simp [h1]; omega))
theorem outs57 : outs (callQ S2 60 57 [.int .u32 (.var 0)] sglob th0 []) = some [([(.eqI (.var 0) (.lit 0), true)], (.bool false)),
  ([(.eqI (.var 0) (.lit 4294967295), true), (.eqI (.var 0) (.lit 0), false)], (.bool false)),
  ([(.eqI (.var 0) (.lit 4294967295), false), (.eqI (.var 0) (.lit 0), false)], (.bool true))] := by kernel_rfl
theorem named57 (x : Int) : pcall E2 60 57 [.int .u32 x] = some (.bool (namedB x)) := by
  have ok := okP (fun _ => x) [] (by simp) (by simp)
  have h := pcall_outs ok (seOk2 ok) rfl rfl (Sat.nil _) (by rfl) outs57
  simp only [AnyOf, satC, denVs, denV, lt_t, lt_f, eq_t, eq_f, denI, valP] at h
  rcases h with h | h | h | h
  all_goals first
    | exact h.elim
    | (obtain ⟨h1, h2⟩ := h; rw [h2]; congr 2; symm; simp [namedB, h1])
theorem outs18 : outs (callQ S2 60 18 [.int .u32 (.var 0)] sglob th0 []) = some [([(.eqI (.var 0) (.lit 0), true)], (.bool false)),
  ([(.eqI (.var 0) (.lit 4294967295), true), (.eqI (.var 0) (.lit 0), false)], (.bool false)),
  ([(.eqI (.var 0) (.lit 4294967295), false), (.eqI (.var 0) (.lit 0), false)], (.bool true))] := by kernel_rfl
theorem named18 (x : Int) : pcall E2 60 18 [.int .u32 x] = some (.bool (namedB x)) := by
  have ok := okP (fun _ => x) [] (by simp) (by simp)
  have h := pcall_outs ok (seOk2 ok) rfl rfl (Sat.nil _) (by rfl) outs18
  simp only [AnyOf, satC, denVs, denV, lt_t, lt_f, eq_t, eq_f, denI, valP] at h
  rcases h with h | h | h | h
  all_goals first
    | exact h.elim
    | (obtain ⟨h1, h2⟩ := h; rw [h2]; congr 2; symm; simp [namedB, h1])
noncomputable def kl3 : List (Nat × (List V → Option V)) := (57, kNamed) :: (18, kNamed) :: kl2
noncomputable def sl3 : List (Nat × (List SV → SM SV)) := (57, kNamedS) :: (18, kNamedS) :: sl2
theorem kNamed_inv {args : List V} {v : V} (h : kNamed args = some v) : ∃ x, args = [.int .u32 x] ∧ v = .bool (namedB x) := by
  unfold kNamed at h
  split at h
  · injection h with h; exact ⟨_, rfl, h.symm⟩
  · simp at h
theorem kt3 : KnTie Tryz.prog glob kl3 := by
  refine .cons ?_ (.cons ?_ kt2)
  · intro args v h
    obtain ⟨x, rfl, rfl⟩ := kNamed_inv h
    exact pcall_good tieE2 60 57 _ _ (named57 x)
  · intro args v h
    obtain ⟨x, rfl, rfl⟩ := kNamed_inv h
    exact pcall_good tieE2 60 18 _ _ (named18 x)
noncomputable def E3 : Env := { fn := E.fn, known := assoc kl3, glob := E.glob }
noncomputable def S3 : SEnv := { fn := S1.fn, known := assoc sl3, glob := S1.glob }
theorem tieE3 : Tie Tryz.prog Co.pureF E3 := kt3.tie tieE
theorem seOk3 {i : Nat → Int} {s : Nat → List Nat} {Th : Thy} (ok : (valP i s).Ok Th) : S3.Ok (valP i s) Th E3 :=
  KnSym.ok (seOk1 (valP i s) Th) (.cons (kNamed_ok ok) (.cons (kNamed_ok ok) (.cons kTrue_ok (.cons (kStr_ok ok rfl) (.cons (kStr_ok ok rfl) .nil)))))
noncomputable def kl4 : List (Nat × (List V → Option V)) := (43, kXid mayN) :: (13, kXid mayN) :: kl3
noncomputable def sl4 : List (Nat × (List SV → SM SV)) := (43, kXidS 1) :: (13, kXidS 1) :: sl3
theorem kXid_inv {P : List Nat → Bool} {args : List V} {v : V} (h : kXid P args = some v) : ∃ f t sl ss an nk, args = [.agg [.int .u32 f, .int .u32 t, .int .i64 sl, .int .i64 ss, .bool an, .str nk]] ∧ (nk.length ≤ 2 ^ 50 ∧ ∀ x ∈ nk, x < 256) ∧ v = .bool (mayX P f sl ss nk) := by
  unfold kXid at h
  split at h
  · split at h
    · rename_i hs
      injection h with h; exact ⟨_, _, _, _, _, _, rfl, hs, h.symm⟩
    · simp at h
  · simp at h
theorem kt4 : KnTie Tryz.prog glob kl4 := by
  refine .cons ?_ (.cons ?_ kt3)
  · intro args v h
    obtain ⟨f, t, sl, ss, an, nk, rfl, hs, rfl⟩ := kXid_inv h
    cases an with
    | false => exact pcall_good tieE2 200 43 _ _ (xid43false f t sl ss nk hs.1 hs.2)
    | true => exact pcall_good tieE2 200 43 _ _ (xid43true f t sl ss nk hs.1 hs.2)
  · intro args v h
    obtain ⟨f, t, sl, ss, an, nk, rfl, hs, rfl⟩ := kXid_inv h
    cases an with
    | false => exact pcall_good tieE2 200 13 _ _ (xid13false f t sl ss nk hs.1 hs.2)
    | true => exact pcall_good tieE2 200 13 _ _ (xid13true f t sl ss nk hs.1 hs.2)
noncomputable def E4 : Env := { fn := E.fn, known := assoc kl4, glob := E.glob }
noncomputable def S4 : SEnv := { fn := S1.fn, known := assoc sl4, glob := S1.glob }
theorem tieE4 : Tie Tryz.prog Co.pureF E4 := kt4.tie tieE
theorem seOk4 {i : Nat → Int} {s : Nat → List Nat} {Th : Thy} (ok : (valP i s).Ok Th) : S4.Ok (valP i s) Th E4 :=
  KnSym.ok (seOk1 (valP i s) Th) (.cons (kXid_ok ok rfl) (.cons (kXid_ok ok rfl) (.cons (kNamed_ok ok) (.cons (kNamed_ok ok) (.cons kTrue_ok (.cons (kStr_ok ok rfl) (.cons (kStr_ok ok rfl) .nil)))))))
/-! ### What the laws' runs ask -/
theorem wf_u32 {a : Int} (h : (Lit.int .u32 a).wf = true) : 0 ≤ a ∧ a ≤ 4294967295 := by
  simp only [Lit.wf, Bool.and_eq_true, decide_eq_true_eq] at h
  exact ⟨h.1, h.2⟩
theorem wf_i64 {a : Int} (h : (Lit.int .i64 a).wf = true) : -9223372036854775808 ≤ a ∧ a ≤ 9223372036854775807 := by
  simp only [Lit.wf, Bool.and_eq_true, decide_eq_true_eq] at h
  exact ⟨h.1, h.2⟩
theorem mayN_a : mayN [97] = true := by decide +kernel
theorem mayN_b : mayN [98] = true := by decide +kernel
theorem ofBytes_ok {nk : ByteArray} (h : nk.size ≤ reachBytes) : (ofBytes nk).length ≤ 2 ^ 50 ∧ ∀ x ∈ ofBytes nk, x < 256 := by
  refine ⟨?_, ?_⟩
  · have h2 : reachBytes ≤ 2 ^ 50 := by decide
    have : (ofBytes nk).length = nk.size := by simp [ofBytes]
    omega
  · intro x hx
    simp only [ofBytes, List.mem_map] at hx
    obtain ⟨c, _, rfl⟩ := hx
    exact c.toNat_lt
/-- A number's rest, from 0 on. -/
def mS (v : Nat) (k : Int) : SI := .op .rem .i64 (.op .add .i64 (.op .rem .i64 (.var v) (.lit k)) (.lit k)) (.lit k)
theorem mS_den (ρ : Val) (v : Nat) (k : Int) (hk : 0 < k) (hk2 : k ≤ 1000) : 0 ≤ denI ρ (mS v k) ∧ denI ρ (mS v k) ≤ k - 1 := by
  simp only [mS, denI, arith]
  have h1 := Int.tmod_lt_of_pos (ρ.i v) hk
  have h2 := Int.lt_tmod_of_pos (ρ.i v) hk
  rw [wrap_i64 (z := Int.tmod (ρ.i v) k + k) (by omega) (by omega)]
  have h3 := Int.tmod_nonneg k (a := Int.tmod (ρ.i v) k + k) (by omega)
  have h4 := Int.tmod_lt_of_pos (Int.tmod (ρ.i v) k + k) hk
  omega
/-- Ranges; the asker's own number, name. -/
noncomputable def thDeaf (k : Int) (b : Nat) : Thy :=
  { cl := [[(.pr 1 [.ch (.lit 77), .ch (.lit 9223372036854775808), .ch (.lit (b : Int)), .ch (.lit 110)], true)]],
    rw := [],
    rg := [(mS 7 3, k, k), (mS 8 100, 0, 99), (.var 2, 0, 4294967295), (.var 3, 0, 4294967295), (.var 4, -9223372036854775808, 9223372036854775807), (.var 5, -9223372036854775808, 9223372036854775807)] }
noncomputable def xaS (an : Bool) : SV := .agg [.int .u32 (.var 2), .int .u32 (.var 3), .int .i64 (.var 4), .int .i64 (.var 5), .bool an, .str [.sub 0 0 none]]
/-- Ranges; what names are good; no number is a device's that is 0 or the last. -/
noncomputable def thRep (rg : List (SI × Int × Int)) : Thy :=
  { cl := [[(.pr 0 [.ch (.lit 110)], true)], [(.pr 0 [], true)],
      [(.eqI (.var 0) (.lit 0), false), (.ltI (.op .sub .u32 (.var 0) (.lit 1)) (.lit 4294967294), false)],
      [(.eqI (.var 0) (.lit 4294967295), false), (.ltI (.op .sub .u32 (.var 0) (.lit 1)) (.lit 4294967294), false)]],
    rw := [],
    rg := (.var 0, 0, 4294967295) :: (.var 1, 0, 4294967295) :: (.var 10, 0, 4294967295) :: (.var 11, 0, 4294967295) :: (.var 12, 0, 4294967295) :: (.var 13, 0, 4294967295) :: (.var 14, 0, 4294967295) :: (.var 15, 0, 4294967295) :: rg }
noncomputable def repH (l : List SV) : SHeap := sglob.alloc (.cells true l)
noncomputable def v32 (i : Nat) : SV := .int .u32 (.var i)
end Go.Proofs.YtdalcnjdpfnjjaaGreatDoor
