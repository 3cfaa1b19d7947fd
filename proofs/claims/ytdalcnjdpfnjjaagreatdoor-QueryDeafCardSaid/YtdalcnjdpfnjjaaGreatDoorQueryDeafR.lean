/- The row and the card of QueryDeaf, from the evaluator's run. -/
import Derived.Test.YtdalcnjdpfnjjaaGreatDoorSeat
import Derived.Test.YtdalcnjdpfnjjaaGreatDoorQueryDeaf1
import Derived.Test.YtdalcnjdpfnjjaaGreatDoorQueryDeaf2
import Derived.Test.YtdalcnjdpfnjjaaGreatDoorCards
import Derived.Test.YtdalcnjdpfnjjaaGreatDoorTie
import Derived.SevenTiedAt
namespace Go.Proofs.YtdalcnjdpfnjjaaGreatDoor
open Go Go.Ev Go.ChangeShapes Go.WideShapes Go.RowKit
set_option linter.unusedSimpArgs false
set_option linter.unusedVariables false
set_option maxRecDepth 100000

theorem own77 (k : Int) (b : Nat) (h : (k = 0 ∧ b = 9223372036854775809) ∨ (k = 1 ∧ b = 9223372036854775814) ∨ (k = 2 ∧ b = 9223372036854775816)) : mayXl mayN [77, 9223372036854775808, b, 110] = true := by
  rcases h with ⟨_, rfl⟩ | ⟨_, rfl⟩ | ⟨_, rfl⟩ <;> decide +kernel
noncomputable def iDeaf (a b f t sl ss : Int) : Nat → Int := fun j => if j = 7 then a else if j = 8 then b else if j = 2 then f else if j = 3 then t else if j = 4 then sl else ss
theorem deaf_ok (a b f t sl ss : Int) (nk : List Nat) (hl : nk.length ≤ 2 ^ 50) (hb : ∀ x ∈ nk, x < 256) (wf : 0 ≤ f ∧ f ≤ 4294967295) (wt : 0 ≤ t ∧ t ≤ 4294967295)
    (wsl : -9223372036854775808 ≤ sl ∧ sl ≤ 9223372036854775807) (wss : -9223372036854775808 ≤ ss ∧ ss ≤ 9223372036854775807) (k : Int) (c : Nat)
    (h : (k = 0 ∧ c = 9223372036854775809) ∨ (k = 1 ∧ c = 9223372036854775814) ∨ (k = 2 ∧ c = 9223372036854775816)) (hm : denI (valP (iDeaf a b f t sl ss) (fun _ => nk)) (mS 7 3) = k) :
    (valP (iDeaf a b f t sl ss) (fun _ => nk)).Ok (thDeaf k c) where
  len := fun _ => hl
  byte := fun _ x h => hb x h
  rw := fun _ h => by simp [thDeaf] at h
  rg := fun x hx => by
    simp only [thDeaf, List.mem_cons, List.not_mem_nil, or_false] at hx
    rcases hx with rfl | rfl | rfl | rfl | rfl | rfl
    · exact ⟨Int.le_of_eq hm.symm, Int.le_of_eq hm⟩
    · exact mS_den _ 8 100 (by decide) (by decide)
    all_goals (simp only [denI, valP, iDeaf, if_true, Nat.reduceEqDiff, if_false]; assumption)
  th := fun x hx => by
    simp only [thDeaf, List.mem_cons, List.not_mem_nil, or_false] at hx
    subst hx
    refine ⟨_, List.mem_cons_self, ?_⟩
    simp only [denA, denS, denP, denI, valP, if_true, Nat.one_ne_zero, if_false, List.singleton_append, List.append_nil, Int.toNat_natCast, Int.reduceToNat]
    exact own77 k c h
theorem queryDeaf_run (a b f t sl ss : Int) (an : Bool) (nk : ByteArray) (wa : (Lit.int .i64 a).wf = true) (wb : (Lit.int .i64 b).wf = true) (wf : (Lit.int .u32 f).wf = true) (wt : (Lit.int .u32 t).wf = true)
    (wsl : (Lit.int .i64 sl).wf = true) (wss : (Lit.int .i64 ss).wf = true) (wn : nk.size ≤ reachBytes) :
    ∃ n H', call E4 n 3 [.agg [.int .u32 f, .int .u32 t, .int .i64 sl, .int .i64 ss, .bool an, .str (ofBytes nk)], .int .i64 a, .int .i64 b] glob = some (.bool true, H') := by
  obtain ⟨hl, hb⟩ := ofBytes_ok wn
  have hm := mS_den (valP (iDeaf a b f t sl ss) (fun _ => ofBytes nk)) 7 3 (by decide) (by decide)
  have fin : ∀ (k : Int) (c : Nat), ((k = 0 ∧ c = 9223372036854775809) ∨ (k = 1 ∧ c = 9223372036854775814) ∨ (k = 2 ∧ c = 9223372036854775816)) → denI (valP (iDeaf a b f t sl ss) (fun _ => ofBytes nk)) (mS 7 3) = k →
      lawQ S4 2000 3 [xaS an, .int .i64 (.var 7), .int .i64 (.var 8)] sglob (thDeaf k c) [] = true → ∃ n H', call E4 n 3 [.agg [.int .u32 f, .int .u32 t, .int .i64 sl, .int .i64 ss, .bool an, .str (ofBytes nk)], .int .i64 a, .int .i64 b] glob = some (.bool true, H') := by
    intro k c hk he hq
    have ok := deaf_ok a b f t sl ss (ofBytes nk) hl hb (wf_u32 wf) (wf_u32 wt) (wf_i64 wsl) (wf_i64 wss) k c hk he
    obtain ⟨H', h⟩ := lawQ_ok ok (seOk4 ok) (Sat.nil _) hq
    rw [sglob_den] at h
    simp only [xaS, denVs, denV, denI, denS, denP, subL, valP, iDeaf, List.drop_zero, List.append_nil, if_true, Nat.one_ne_zero, Nat.reduceEqDiff, if_false] at h
    exact ⟨2000, H', h⟩
  have h3 : denI (valP (iDeaf a b f t sl ss) (fun _ => ofBytes nk)) (mS 7 3) = 0 ∨ denI (valP (iDeaf a b f t sl ss) (fun _ => ofBytes nk)) (mS 7 3) = 1 ∨ denI (valP (iDeaf a b f t sl ss) (fun _ => ofBytes nk)) (mS 7 3) = 2 := by omega
  rcases h3 with h3 | h3 | h3
  · refine fin 0 9223372036854775809 (Or.inl ⟨rfl, rfl⟩) h3 (deaf0 an)
  · refine fin 1 9223372036854775814 (Or.inr (Or.inl ⟨rfl, rfl⟩)) h3 (deaf1 an)
  · refine fin 2 9223372036854775816 (Or.inr (Or.inr ⟨rfl, rfl⟩)) h3 (deaf2 an)

theorem queryDeaf_lifted (os : Os) (started : os.Started) (H : Type) (enc : TypeId × Value → H) :
    ReturnsInHanded {} Tryz.checked os 3 .any (fun w args => (Rows.queryDeafSpec.pre enc Tryz.prog Tryz.f3 [] false w args ∧ laidMetH Tryz.prog Rows.queryDeafRow.laid w) ∧ sizedMet enc Tryz.prog Tryz.f3 (OpenSpec.ofChange Rows.queryDeafSpec) false w args)
      (Rows.queryDeafSpec.post enc Tryz.prog Tryz.f3 false true false false) := by
  refine returnsInHanded_of_change_and (C := Tryz.checked) (X := fun w _ => laidMetH Tryz.prog Rows.queryDeafRow.laid w) (fun _ _ _ hh h => h.of_heap hh) own started (by kernel_rfl) Tryz.func3
    (ChangeSpec.witness_shaped (enc := enc) (C := Tryz.checked) (os := os) (X := fun w _ => laidMetH Tryz.prog Rows.queryDeafRow.laid w) false (World.laidAll Tryz.prog os Rows.queryDeafRow.laid)
      #[.agg #[.int .u32 0, .int .u32 0, .int .i64 0, .int .i64 0, .bool false, .string ⟨#[]⟩], .int .i64 1, .int .i64 2] 8 (World.laidAll_os _ _ _)
      (World.shaped_of_ZipB (by kernel_rfl) (by kernel_rfl)) (by kernel_rfl) (by kernel_rfl) (by kernel_rfl)
      (by rw [MakeChecks.laidMetH_plain _ _ _ (by kernel_rfl)]; exact laidMet_laidAll _ (by kernel_rfl) (by kernel_rfl))) ?_
  intro W base args ds gs before hval hW _ hz hL _
  have hW' := hW
  obtain ⟨p, q, hA, hV, rfl, _, _⟩ := hW
  obtain ⟨rfl, rfl⟩ := trodVars_none hV
  have hps : Tryz.f3.params.toList = [24, 3, 3] := by rw [Tryz.params3]
  have hv0 : ∀ (j : Nat) t v, Tryz.f3.params[j]? = some t → args[j]? = some v → Value.okWide Tryz.prog W .any base t v := hval
  have hA' : DataW.TrodAll enc Tryz.prog W 0 (fun _ => true) true [24, 3, 3] args.toList ds p := by rw [← hps]; exact hA
  obtain ⟨v0, v1, v2, d0, d1, d2, p0, p1, p2, rfl, rfl, rfl, h0, h1, h2⟩ := trodAll_three hA'
  obtain ⟨a, rfl, rfl, _, wa⟩ := open_int Tryz.underlying3 (hv0 1 3 v1 (by rw [Tryz.params3]; rfl) rfl) h1
  obtain ⟨b, rfl, rfl, _, wb⟩ := open_int Tryz.underlying3 (hv0 2 3 v2 (by rw [Tryz.params3]; rfl) rfl) h2
  obtain ⟨cs, rfl, _⟩ := okWide_struct Tryz.underlying24 (hv0 0 24 v0 (by rw [Tryz.params3]; rfl) rfl)
  have hx : LfsOk [.i .u32, .i .u32, .i .i64, .i .i64, .b, .s] cs.toList := arg_flat (n := 5) (by kernel_rfl) h0
  obtain ⟨x0, x1, x2, x3, x4, x5, hcs, ⟨f, rfl, wf⟩, ⟨t, rfl, wt⟩, ⟨sl, rfl, wsl⟩, ⟨ss, rfl, wss⟩, ⟨an, rfl⟩, ⟨nk, rfl, wn⟩⟩ := lfs6 hx
  have hn := arg_w (n := 5) (ls := [.i .u32, .i .u32, .i .i64, .i .i64, .b, .s]) (by kernel_rfl) h0 nk (by show Value.string nk ∈ cs.toList; rw [hcs]; simp)
  replace wn : nk.size ≤ reachBytes := by
    have h4 := List.all_eq_true.1 hz nk.size (by
      rw [hps]
      simp only [List.cons_append, List.nil_append, DataW.weightsEach, List.mem_append]
      left; exact hn)
    simpa using h4
  obtain ⟨n, H', hcall⟩ := queryDeaf_run a b f t sl ss an nk wa wb wf wt wsl wss wn
  obtain ⟨φ, hinv⟩ := start0 hL
  refine law_contract tieE4 (tb := 4) laidOut (by kernel_rfl) rfl rfl Tryz.underlying4 ?_ hW' (avs := [.agg [.int .u32 f, .int .u32 t, .int .i64 sl, .int .i64 ss, .bool an, .str (ofBytes nk)], .int .i64 a, .int .i64 b]) (H0 := glob) (φ := φ) hinv ?_ hcall
  · simp [Rows.queryDeafSpec]
  · exact .cons (VR.agg' (by rw [hcs]; exact leavesV_sound rfl)) (.cons (.int _ _) (.cons (.int _ _) (.nil _)))

theorem queryDeaf_row : Rows.QueryDeafSaid :=
  OpenClaim.holds_of_wide 3 Tryz.f3 rfl rfl rfl rfl rfl rfl rfl ⟨rfl, rfl, rfl, rfl, rfl⟩ rfl rfl rfl rfl rfl (by kernel_rfl) Tryz.func3 (by kernel_rfl)
    (of_decide_eq_true (by kernel_rfl)) (by unfold Func.isWrapper; first | (rw [if_pos (by decide +kernel)]; kernel_rfl) | (rw [if_neg (by decide +kernel)]; exact ⟨rfl, rfl⟩))
    (fun os started H enc _ => queryDeaf_lifted os started H enc)
theorem queryDeaf_holds : Rows.QueryDeafCardSaid :=
  Claim7.holds_tied_plain_at .later [] [.data, .data, .pinned] true (true, "d0484a618f130a9e8155cdbb0b206f068611d41de2e1d6f1bde6c095dd801a4b") true
    queryDeaf_row (fun _ h => by cases h) (by kernel_rfl) (fun _ h => by cases h) queryDeaf_row_tie rfl ⟨rfl, rfl⟩ (by kernel_rfl) rfl
    (fun f fn hf hfn => by
      obtain rfl : f = 3 := Option.some.inj ((show Tryz.prog.funcNamed "glowworm/glowwormlaw16.QueryDeaf" = some 3 by kernel_rfl).symm.trans hf) |>.symm
      obtain rfl : fn = Tryz.f3 := (Option.some.inj (Tryz.func3.symm.trans hfn)).symm
      exact ⟨by kernel_rfl, fun j t ht => by
        rw [Tryz.params3] at ht
        have h3 : t = 3 ∨ t = 24 := by
          rcases j with _ | _ | _ | j
          · right; simpa using ht.symm
          · left; simpa using ht.symm
          · left; simpa using ht.symm
          · simp at ht
        rcases h3 with rfl | rfl
        · exact (show Tryz.prog.wantsStandIn 3 = false by kernel_rfl)
        · exact (show Tryz.prog.wantsStandIn 24 = false by kernel_rfl)⟩)
    (by kernel_rfl)
#print axioms queryDeaf_holds
end Go.Proofs.YtdalcnjdpfnjjaaGreatDoor
