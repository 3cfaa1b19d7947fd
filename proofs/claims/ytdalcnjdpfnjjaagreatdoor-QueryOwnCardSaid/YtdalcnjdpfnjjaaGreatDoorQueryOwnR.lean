/- The row and the card of QueryOwn, from the evaluator's run. -/
import Derived.Test.YtdalcnjdpfnjjaaGreatDoorSeat
import Derived.Test.YtdalcnjdpfnjjaaGreatDoorQueryOwnX
import Derived.Test.YtdalcnjdpfnjjaaGreatDoorRowB
import Derived.Test.YtdalcnjdpfnjjaaGreatDoorCards
import Derived.Test.YtdalcnjdpfnjjaaGreatDoorTie
import Derived.SevenTiedAt
namespace Go.Proofs.YtdalcnjdpfnjjaaGreatDoor
open Go Go.Ev Go.ChangeShapes Go.WideShapes Go.RowKit
set_option maxRecDepth 100000

theorem queryOwn_lifted (os : Os) (started : os.Started) (H : Type) (enc : TypeId × Value → H) :
    ReturnsInHanded {} Tryz.checked os 5 .any (fun w args => (Rows.queryOwnSpec.pre enc Tryz.prog Tryz.f5 [] false w args ∧ laidMetH Tryz.prog Rows.queryOwnRow.laid w) ∧ sizedMet enc Tryz.prog Tryz.f5 (OpenSpec.ofChange Rows.queryOwnSpec) false w args)
      (Rows.queryOwnSpec.post enc Tryz.prog Tryz.f5 false true false false) := by
  refine returnsInHanded_of_change_and (C := Tryz.checked) (X := fun w _ => laidMetH Tryz.prog Rows.queryOwnRow.laid w) (fun _ _ _ hh h => h.of_heap hh) own started (by kernel_rfl) Tryz.func5
    (ChangeSpec.witness_shaped (enc := enc) (C := Tryz.checked) (os := os) (X := fun w _ => laidMetH Tryz.prog Rows.queryOwnRow.laid w) false (World.laidAll Tryz.prog os Rows.queryOwnRow.laid)
      #[.int .u32 1, .int .u32 2, .agg #[.int .u32 0, .int .u32 0, .int .i64 0, .int .i64 0, .bool false, .string ⟨#[]⟩]] 8 (World.laidAll_os _ _ _)
      (World.shaped_of_ZipB (by kernel_rfl) (by kernel_rfl)) (by kernel_rfl) (by kernel_rfl) (by kernel_rfl)
      (by rw [MakeChecks.laidMetH_plain _ _ _ (by kernel_rfl)]; exact laidMet_laidAll _ (by kernel_rfl) (by kernel_rfl))) ?_
  intro W base args ds gs before hval hW _ hz hL _
  have hW' := hW
  obtain ⟨p, q, hA, hV, rfl, _, _⟩ := hW
  obtain ⟨rfl, rfl⟩ := trodVars_none hV
  have hps : Tryz.f5.params.toList = [22, 22, 24] := by rw [Tryz.params5]
  have hv0 : ∀ (j : Nat) t v, Tryz.f5.params[j]? = some t → args[j]? = some v → Value.okWide Tryz.prog W .any base t v := hval
  have hA' : DataW.TrodAll enc Tryz.prog W 0 (fun _ => true) true [22, 22, 24] args.toList ds p := by rw [← hps]; exact hA
  obtain ⟨v0, v1, v2, d0, d1, d2, p0, p1, p2, rfl, rfl, rfl, h0, h1, h2⟩ := trodAll_three hA'
  obtain ⟨a, rfl, rfl, _, wa⟩ := open_int Tryz.underlying22 (hv0 0 22 v0 (by rw [Tryz.params5]; rfl) rfl) h0
  obtain ⟨b, rfl, rfl, _, wb⟩ := open_int Tryz.underlying22 (hv0 1 22 v1 (by rw [Tryz.params5]; rfl) rfl) h1
  obtain ⟨cs, rfl, _⟩ := okWide_struct Tryz.underlying24 (hv0 2 24 v2 (by rw [Tryz.params5]; rfl) rfl)
  have hx : LfsOk [.i .u32, .i .u32, .i .i64, .i .i64, .b, .s] cs.toList := arg_flat (n := 5) (by kernel_rfl) h2
  obtain ⟨x0, x1, x2, x3, x4, x5, hcs, ⟨f, rfl, wf⟩, ⟨t, rfl, wt⟩, ⟨sl, rfl, wsl⟩, ⟨ss, rfl, wss⟩, ⟨an, rfl⟩, ⟨nk, rfl, wn⟩⟩ := lfs6 hx
  have hn := arg_w (n := 5) (ls := [.i .u32, .i .u32, .i .i64, .i .i64, .b, .s]) (by kernel_rfl) h2 nk (by show Value.string nk ∈ cs.toList; rw [hcs]; simp)
  replace wn : nk.size ≤ reachBytes := by
    have h4 := List.all_eq_true.1 hz nk.size (by
      rw [hps]
      simp only [List.cons_append, List.nil_append, DataW.weightsEach, List.mem_append]
      right; right; left; exact hn)
    simpa using h4
  obtain ⟨n, H', hcall⟩ := queryOwn_run a b f t sl ss an nk wa wb wf wt wsl wss wn
  obtain ⟨φ, hinv⟩ := start0 hL
  refine law_contract tieE3 (tb := 4) laidOut (by kernel_rfl) rfl rfl Tryz.underlying4 ?_ hW' (avs := [.int .u32 a, .int .u32 b, .agg [.int .u32 f, .int .u32 t, .int .i64 sl, .int .i64 ss, .bool an, .str (ofBytes nk)]]) (H0 := glob) (φ := φ) hinv ?_ hcall
  · simp [Rows.queryOwnSpec]
  · exact .cons (.int _ _) (.cons (.int _ _) (.cons (VR.agg' (by rw [hcs]; exact leavesV_sound rfl)) (.nil _)))

theorem queryOwn_row : Rows.QueryOwnSaid :=
  OpenClaim.holds_of_wide 5 Tryz.f5 rfl rfl rfl rfl rfl rfl rfl ⟨rfl, rfl, rfl, rfl, rfl⟩ rfl rfl rfl rfl rfl (by kernel_rfl) Tryz.func5 (by kernel_rfl)
    (of_decide_eq_true (by kernel_rfl)) (by unfold Func.isWrapper; first | (rw [if_pos (by decide +kernel)]; kernel_rfl) | (rw [if_neg (by decide +kernel)]; exact ⟨rfl, rfl⟩))
    (fun os started H enc _ => queryOwn_lifted os started H enc)
theorem queryOwn_holds : Rows.QueryOwnCardSaid :=
  Claim7.holds_tied_plain_at .later [] [.data, .data, .pinned] true (true, "d0484a618f130a9e8155cdbb0b206f068611d41de2e1d6f1bde6c095dd801a4b") true
    queryOwn_row (fun _ h => by cases h) (by kernel_rfl) (fun _ h => by cases h) queryOwn_row_tie rfl ⟨rfl, rfl⟩ (by kernel_rfl) rfl
    (fun f fn hf hfn => by
      obtain rfl : f = 5 := Option.some.inj ((show Tryz.prog.funcNamed "glowworm/glowwormlaw16.QueryOwn" = some 5 by kernel_rfl).symm.trans hf) |>.symm
      obtain rfl : fn = Tryz.f5 := (Option.some.inj (Tryz.func5.symm.trans hfn)).symm
      exact ⟨by kernel_rfl, fun j t ht => by
        rw [Tryz.params5] at ht
        have h3 : t = 22 ∨ t = 24 := by
          rcases j with _ | _ | _ | j
          · left; simpa using ht.symm
          · left; simpa using ht.symm
          · right; simpa using ht.symm
          · simp at ht
        rcases h3 with rfl | rfl
        · exact (show Tryz.prog.wantsStandIn 22 = false by kernel_rfl)
        · exact (show Tryz.prog.wantsStandIn 24 = false by kernel_rfl)⟩)
    (by kernel_rfl)
#print axioms queryOwn_holds
end Go.Proofs.YtdalcnjdpfnjjaaGreatDoor
