/- The closed call, names, numbers, who is there: all known at once. -/
import Derived.Test.YtdalcnjdpfnjjaaGreatDoorKn
namespace Go.Proofs.YtdalcnjdpfnjjaaGreatDoor
open Go Go.Ev
set_option maxRecDepth 100000
noncomputable def kl3 : List (Nat × (List V → Option V)) := (57, kNamed) :: (18, kNamed) :: kl2
noncomputable def sl3 : List (Nat × (List SV → SM SV)) := (57, kNamedS) :: (18, kNamedS) :: sl2
theorem kNamed_inv {args : List V} {v : V} (h : kNamed args = some v) : ∃ x, args = [.int .u32 x] ∧ v = .bool (namedB x) := by
  unfold kNamed at h
  split at h
  · injection h with h; exact ⟨_, rfl, h.symm⟩
  · simp at h
theorem kt3 : KnTie Tryz.prog glob kl3 := by
  refine .cons ?_ (.cons ?_ kt2)
  · intro args v h
    obtain ⟨x, rfl, rfl⟩ := kNamed_inv h
    exact pcall_good tieE2 60 57 _ _ (named57 x)
  · intro args v h
    obtain ⟨x, rfl, rfl⟩ := kNamed_inv h
    exact pcall_good tieE2 60 18 _ _ (named18 x)
noncomputable def E3 : Env := { fn := E.fn, known := assoc kl3, glob := E.glob }
noncomputable def S3 : SEnv := { fn := S1.fn, known := assoc sl3, glob := S1.glob }
theorem tieE3 : Tie Tryz.prog Co.pureF E3 := kt3.tie tieE
theorem seOk3 {i : Nat → Int} {s : Nat → List Nat} {Th : Thy} (ok : (valP i s).Ok Th) : S3.Ok (valP i s) Th E3 :=
  KnSym.ok (seOk1 (valP i s) Th) (.cons (kNamed_ok ok) (.cons (kNamed_ok ok) (.cons kTrue_ok (.cons (kStr_ok ok rfl) (.cons (kStr_ok ok rfl) .nil)))))
noncomputable def kl4 : List (Nat × (List V → Option V)) := (43, kXid mayN) :: (13, kXid mayN) :: kl3
noncomputable def sl4 : List (Nat × (List SV → SM SV)) := (43, kXidS 1) :: (13, kXidS 1) :: sl3
theorem kXid_inv {P : List Nat → Bool} {args : List V} {v : V} (h : kXid P args = some v) : ∃ f t sl ss an nk, args = [.agg [.int .u32 f, .int .u32 t, .int .i64 sl, .int .i64 ss, .bool an, .str nk]] ∧ (nk.length ≤ 2 ^ 50 ∧ ∀ x ∈ nk, x < 256) ∧ v = .bool (mayX P f sl ss nk) := by
  unfold kXid at h
  split at h
  · split at h
    · rename_i hs
      injection h with h; exact ⟨_, _, _, _, _, _, rfl, hs, h.symm⟩
    · simp at h
  · simp at h
theorem kt4 : KnTie Tryz.prog glob kl4 := by
  refine .cons ?_ (.cons ?_ kt3)
  · intro args v h
    obtain ⟨f, t, sl, ss, an, nk, rfl, hs, rfl⟩ := kXid_inv h
    cases an with
    | false => exact pcall_good tieE2 200 43 _ _ (xid43false f t sl ss nk hs.1 hs.2)
    | true => exact pcall_good tieE2 200 43 _ _ (xid43true f t sl ss nk hs.1 hs.2)
  · intro args v h
    obtain ⟨f, t, sl, ss, an, nk, rfl, hs, rfl⟩ := kXid_inv h
    cases an with
    | false => exact pcall_good tieE2 200 13 _ _ (xid13false f t sl ss nk hs.1 hs.2)
    | true => exact pcall_good tieE2 200 13 _ _ (xid13true f t sl ss nk hs.1 hs.2)
noncomputable def E4 : Env := { fn := E.fn, known := assoc kl4, glob := E.glob }
noncomputable def S4 : SEnv := { fn := S1.fn, known := assoc sl4, glob := S1.glob }
theorem tieE4 : Tie Tryz.prog Co.pureF E4 := kt4.tie tieE
theorem seOk4 {i : Nat → Int} {s : Nat → List Nat} {Th : Thy} (ok : (valP i s).Ok Th) : S4.Ok (valP i s) Th E4 :=
  KnSym.ok (seOk1 (valP i s) Th) (.cons (kXid_ok ok rfl) (.cons (kXid_ok ok rfl) (.cons (kNamed_ok ok) (.cons (kNamed_ok ok) (.cons kTrue_ok (.cons (kStr_ok ok rfl) (.cons (kStr_ok ok rfl) .nil)))))))
end Go.Proofs.YtdalcnjdpfnjjaaGreatDoor
