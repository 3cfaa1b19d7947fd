/- The row and the card of ReplyAnew, from the evaluator's run. -/
import Derived.Test.YtdalcnjdpfnjjaaGreatDoorSeat
import Derived.Test.YtdalcnjdpfnjjaaGreatDoorReplyAnew0
import Derived.Test.YtdalcnjdpfnjjaaGreatDoorReplyAnew5
import Derived.Test.YtdalcnjdpfnjjaaGreatDoorReplyAnew6
import Derived.Test.YtdalcnjdpfnjjaaGreatDoorReplyAnew7
import Derived.Test.YtdalcnjdpfnjjaaGreatDoorCards
import Derived.Test.YtdalcnjdpfnjjaaGreatDoorTie
import Derived.SevenTiedAt
namespace Go.Proofs.YtdalcnjdpfnjjaaGreatDoor
open Go Go.Ev Go.ChangeShapes Go.WideShapes Go.RowKit
set_option linter.unusedSimpArgs false
set_option linter.unusedVariables false
set_option maxRecDepth 100000

noncomputable def iRep (me to : Int) (zs : List Int) : Nat → Int := fun j => if j = 0 then me else if j = 1 then to else if j = 99 then (zs.length : Int) else zs.getD (j - 10) 0
theorem mayN_n : mayN [110] = true := by decide +kernel
theorem mayN_nil : mayN [] = true := by decide +kernel
theorem getD_rg {zs : List Int} (hz : ∀ z ∈ zs, 0 ≤ z ∧ z ≤ 4294967295) (j : Nat) : 0 ≤ zs.getD j 0 ∧ zs.getD j 0 ≤ 4294967295 := by
  rw [List.getD]
  cases h : zs[j]? with
  | none => simp
  | some z => simpa using hz z (List.mem_of_getElem? h)
theorem rep_ok (me to : Int) (zs : List Int) (wm : 0 ≤ me ∧ me ≤ 4294967295) (wt : 0 ≤ to ∧ to ≤ 4294967295) (hz : ∀ z ∈ zs, 0 ≤ z ∧ z ≤ 4294967295) (rg : List (SI × Int × Int))
    (hr : ∀ x ∈ rg, x.2.1 ≤ denI (valP (iRep me to zs) (fun _ => [])) x.1 ∧ denI (valP (iRep me to zs) (fun _ => [])) x.1 ≤ x.2.2) : (valP (iRep me to zs) (fun _ => [])).Ok (thRep rg) where
  len := fun _ => by simp [valP]
  byte := fun _ x h => by simp [valP] at h
  rw := fun _ h => by simp [thRep] at h
  rg := fun x hx => by
    simp only [thRep, List.mem_cons] at hx
    rcases hx with rfl | rfl | rfl | rfl | rfl | rfl | rfl | rfl | hx
    · simpa [denI, valP, iRep] using wm
    · simpa [denI, valP, iRep] using wt
    · exact getD_rg hz 0
    · exact getD_rg hz 1
    · exact getD_rg hz 2
    · exact getD_rg hz 3
    · exact getD_rg hz 4
    · exact getD_rg hz 5
    · exact hr x hx
  th := fun x hx => by
    simp only [thRep, List.mem_cons, List.not_mem_nil, or_false] at hx
    rcases hx with rfl | rfl | rfl | rfl
    · exact ⟨_, List.mem_cons_self, by simp only [denA, denS, denP, denI, valP, if_true]; exact mayN_n⟩
    · exact ⟨_, List.mem_cons_self, by simp only [denA, denS, denP, denI, valP, if_true]; exact mayN_nil⟩
    · by_cases h : me = 0
      · refine ⟨_, List.mem_cons_of_mem _ List.mem_cons_self, ?_⟩
        rw [lt_f]
        subst h
        simp only [denI, valP, iRep, if_true, arith]
        decide
      · refine ⟨_, List.mem_cons_self, ?_⟩
        rw [eq_f]
        simpa [denI, valP, iRep] using h
    · by_cases h : me = 4294967295
      · refine ⟨_, List.mem_cons_of_mem _ List.mem_cons_self, ?_⟩
        rw [lt_f]
        subst h
        simp only [denI, valP, iRep, if_true, arith]
        decide
      · refine ⟨_, List.mem_cons_self, ?_⟩
        rw [eq_f]
        simpa [denI, valP, iRep] using h
theorem rep_nil (me to : Int) (wm : 0 ≤ me ∧ me ≤ 4294967295) (wt : 0 ≤ to ∧ to ≤ 4294967295) : ∃ n H', call E3 n 4 [.int .u32 me, .int .u32 to, .nils] glob = some (.bool true, H') := by
  have ok := rep_ok me to [] wm wt (by simp) [] (by simp)
  obtain ⟨H', h⟩ := lawQ_ok ok (seOk3 ok) (Sat.nil _) rep00
  rw [sglob_den] at h
  simp only [v32, denVs, denV, denI, valP, iRep, if_true, Nat.one_ne_zero, if_false] at h
  exact ⟨400, H', h⟩
theorem rep_none (me to : Int) (wm : 0 ≤ me ∧ me ≤ 4294967295) (wt : 0 ≤ to ∧ to ≤ 4294967295) : ∃ n H', call E3 n 4 [.int .u32 me, .int .u32 to, .sl 0 0 0 1 false] glob = some (.bool true, H') := by
  have ok := rep_ok me to [] wm wt (by simp) [] (by simp)
  obtain ⟨H', h⟩ := lawQ_ok ok (seOk3 ok) (Sat.nil _) rep01
  rw [sglob_den] at h
  simp only [v32, denVs, denV, denI, valP, iRep, if_true, Nat.one_ne_zero, if_false, Int.toNat_zero] at h
  exact ⟨400, H', h⟩
theorem rep_run (me to : Int) (zs : List Int) (wm : 0 ≤ me ∧ me ≤ 4294967295) (wt : 0 ≤ to ∧ to ≤ 4294967295) (hz : ∀ z ∈ zs, 0 ≤ z ∧ z ≤ 4294967295) (hl : zs.length ≤ 1125899906842624) :
    ∃ n H', call E3 n 4 [.int .u32 me, .int .u32 to, .sl 3 0 zs.length 1 false] (glob.alloc (.cells true ((zs.take 6).map fun z => .int .u32 z))) = some (.bool true, H') := by
  have fin : ∀ (rg : List (SI × Int × Int)) (n : SI) (l : List SV), (∀ x ∈ rg, x.2.1 ≤ denI (valP (iRep me to zs) (fun _ => [])) x.1 ∧ denI (valP (iRep me to zs) (fun _ => [])) x.1 ≤ x.2.2) →
      denI (valP (iRep me to zs) (fun _ => [])) n = (zs.length : Int) → denVs (valP (iRep me to zs) (fun _ => [])) l = (zs.take 6).map (fun z => V.int .u32 z) → lawQ S3 400 4 [v32 0, v32 1, .sl 3 0 n 1 false] (repH l) (thRep rg) [] = true →
      ∃ n H', call E3 n 4 [.int .u32 me, .int .u32 to, .sl 3 0 zs.length 1 false] (glob.alloc (.cells true ((zs.take 6).map fun z => .int .u32 z))) = some (.bool true, H') := by
    intro rg n l hr hn hv hq
    have ok := rep_ok me to zs wm wt hz rg hr
    obtain ⟨H', h⟩ := lawQ_ok ok (seOk3 ok) (Sat.nil _) hq
    rw [repH, denH_alloc, sglob_den] at h
    simp only [denO, hv] at h
    simp only [denVs, v32, denV, hn, Int.toNat_natCast] at h
    exact ⟨400, H', by simpa only [denI, valP, iRep, if_true, Nat.one_ne_zero, if_false] using h⟩
  have hd : ∀ i, denV (valP (iRep me to zs) (fun _ => [])) (v32 i) = .int .u32 (iRep me to zs i) := fun _ => rfl
  match zs, fin with
  | [], fin => exact fin [] (.lit 0) [] (by simp) rfl rfl rep0
  | [a], fin => exact fin [] (.lit 1) [v32 10] (by simp) rfl rfl rep1
  | [a, b], fin => exact fin [] (.lit 2) [v32 10, v32 11] (by simp) rfl rfl rep2
  | [a, b, c], fin => exact fin [] (.lit 3) [v32 10, v32 11, v32 12] (by simp) rfl rfl rep3
  | [a, b, c, d], fin => exact fin [] (.lit 4) [v32 10, v32 11, v32 12, v32 13] (by simp) rfl rfl rep4
  | [a, b, c, d, e], fin => exact fin [] (.lit 5) [v32 10, v32 11, v32 12, v32 13, v32 14] (by simp) rfl rfl rep5
  | [a, b, c, d, e, f], fin => exact fin [] (.lit 6) [v32 10, v32 11, v32 12, v32 13, v32 14, v32 15] (by simp) rfl rfl rep6
  | a :: b :: c :: d :: e :: f :: g :: r, fin =>
    refine fin [(.var 99, 7, 1125899906842624)] (.var 99) [v32 10, v32 11, v32 12, v32 13, v32 14, v32 15] ?_ rfl rfl rep7
    intro x hx
    rw [List.mem_singleton] at hx
    subst hx
    simp only [denI, valP, iRep, Nat.reduceEqDiff, if_false, if_true]
    simp only [List.length_cons] at hl ⊢
    omega

theorem replyAnew_lifted (os : Os) (started : os.Started) (H : Type) (enc : TypeId × Value → H) :
    ReturnsInHanded {} Tryz.checked os 4 .any (fun w args => (Rows.replyAnewSpec.pre enc Tryz.prog Tryz.f4 [] false w args ∧ laidMetH Tryz.prog Rows.replyAnewRow.laid w) ∧ sizedMet enc Tryz.prog Tryz.f4 (OpenSpec.ofChange Rows.replyAnewSpec) false w args)
      (Rows.replyAnewSpec.post enc Tryz.prog Tryz.f4 false true false false) := by
  refine returnsInHanded_of_change_and (C := Tryz.checked) (X := fun w _ => laidMetH Tryz.prog Rows.replyAnewRow.laid w) (fun _ _ _ hh h => h.of_heap hh) own started (by kernel_rfl) Tryz.func4
    (ChangeSpec.witness_shaped (enc := enc) (C := Tryz.checked) (os := os) (X := fun w _ => laidMetH Tryz.prog Rows.replyAnewRow.laid w) false (World.laidAll Tryz.prog os Rows.replyAnewRow.laid)
      #[.int .u32 1, .int .u32 2, .slice none 0 0] 8 (World.laidAll_os _ _ _)
      (World.shaped_of_ZipB (by kernel_rfl) (by kernel_rfl)) (by kernel_rfl) (by kernel_rfl) (by kernel_rfl)
      (by rw [MakeChecks.laidMetH_plain _ _ _ (by kernel_rfl)]; exact laidMet_laidAll _ (by kernel_rfl) (by kernel_rfl))) ?_
  intro W base args ds gs before hval hW _ hz hL _
  have hW' := hW
  obtain ⟨p, q, hA, hV, rfl, _, _⟩ := hW
  obtain ⟨rfl, rfl⟩ := trodVars_none hV
  have hps : Tryz.f4.params.toList = [22, 22, 38] := by rw [Tryz.params4]
  have hv0 : ∀ (j : Nat) t v, Tryz.f4.params[j]? = some t → args[j]? = some v → Value.okWide Tryz.prog W .any base t v := hval
  have hA' : DataW.TrodAll enc Tryz.prog W 0 (fun _ => true) true [22, 22, 38] args.toList ds p := by rw [← hps]; exact hA
  obtain ⟨v0, v1, v2, d0, d1, d2, p0, p1, p2, rfl, rfl, rfl, h0, h1, h2⟩ := trodAll_three hA'
  obtain ⟨a, rfl, rfl, _, wa⟩ := open_int Tryz.underlying22 (hv0 0 22 v0 (by rw [Tryz.params4]; rfl) rfl) h0
  obtain ⟨b, rfl, rfl, _, wb⟩ := open_int Tryz.underlying22 (hv0 1 22 v1 (by rw [Tryz.params4]; rfl) rfl) h1
  have hz2 : (d2.weights Tryz.prog 38).all (· ≤ reachBytes) = true := List.all_eq_true.2 fun x hx => List.all_eq_true.1 hz x (by
    rw [hps]
    simp only [List.cons_append, List.nil_append, DataW.weightsEach, List.mem_append]
    right; right; left; exact hx)
  have spec : (Rows.replyAnewSpec.fn H ([DataW.lit (.int .u32 a), DataW.lit (.int .u32 b), d2] ++ [])) = { results := [.lit (.bool true)], args := [DataW.lit (.int .u32 a), DataW.lit (.int .u32 b), d2] } := by
    simp [Rows.replyAnewSpec]
  rcases open_list Tryz.underlying38 Tryz.underlying22 (by kernel_rfl) (by decide +kernel) (hv0 2 38 v2 (by rw [Tryz.params4]; rfl) rfl) h2 hz2 with rfl | ⟨a0, cap, zs, hsp, hzl, hzc, rfl, hwf, hmem⟩
  · obtain ⟨n, H', hcall⟩ := rep_nil a b (wf_u32 wa) (wf_u32 wb)
    obtain ⟨φ, hinv⟩ := start0 hL
    exact law_contract tieE3 (tb := 4) laidOut (by kernel_rfl) rfl rfl Tryz.underlying4 spec hW' (H0 := glob) (φ := φ) hinv (.cons (.int _ _) (.cons (.int _ _) (.cons .nils (.nil _)))) hcall
  · have hl : zs.length ≤ 1125899906842624 := Nat.le_trans hzl (by decide)
    have hwz : ∀ z ∈ zs, 0 ≤ z ∧ z ≤ 4294967295 := fun z hz' => wf_u32 (hwf z hz')
    rcases hmem with h3 | ⟨arr, e', fr, hb, hsz, hcell⟩
    · obtain rfl : zs = [] := List.length_eq_zero_iff.1 (by omega)
      subst h3
      obtain ⟨n, H', hcall⟩ := rep_none a b (wf_u32 wa) (wf_u32 wb)
      obtain ⟨φ, hinv⟩ := start0 hL
      exact law_contract tieE3 (tb := 4) laidOut (by kernel_rfl) rfl rfl Tryz.underlying4 spec hW' (H0 := glob) (φ := φ) hinv (.cons (.int _ _) (.cons (.int _ _) (.cons (.sl0 0 0 1 false a0 hsp) (.nil _)))) hcall
    · obtain ⟨n, H', hcall⟩ := rep_run a b zs (wf_u32 wa) (wf_u32 wb) hwz hl
      have h6 : (zs.take 6).length ≤ zs.length := by rw [List.length_take]; omega
      obtain ⟨φ, hinv, hφ⟩ := start1 hL hb .u32 (zs.take 6) (fun j z hj => hcell j z (by
        rw [List.getElem?_take] at hj
        split at hj
        · exact hj
        · simp at hj)) (off := a0.off) (by omega)
      refine law_contract tieE3 (tb := 4) laidOut (by kernel_rfl) rfl rfl Tryz.underlying4 spec hW' (φ := φ) hinv (.cons (.int _ _) (.cons (.int _ _) (.cons ?_ (.nil _)))) hcall
      cases a0 with
      | mk bl of sp =>
        simp only at hsp; subst hsp
        exact VR.sl 3 0 zs.length 1 false bl of arr.size cap hφ hzc (fun h => by simp at h) (by simp only [Nat.add_zero, Nat.mul_one]; exact hsz)

theorem replyAnew_row : Rows.ReplyAnewSaid :=
  OpenClaim.holds_of_wide 4 Tryz.f4 rfl rfl rfl rfl rfl rfl rfl ⟨rfl, rfl, rfl, rfl, rfl⟩ rfl rfl rfl rfl rfl (by kernel_rfl) Tryz.func4 (by kernel_rfl)
    (of_decide_eq_true (by kernel_rfl)) (by unfold Func.isWrapper; first | (rw [if_pos (by decide +kernel)]; kernel_rfl) | (rw [if_neg (by decide +kernel)]; exact ⟨rfl, rfl⟩))
    (fun os started H enc _ => replyAnew_lifted os started H enc)
theorem replyAnew_holds : Rows.ReplyAnewCardSaid :=
  Claim7.holds_tied_plain_at .later [] [.data, .data, .pinned] true (true, "d0484a618f130a9e8155cdbb0b206f068611d41de2e1d6f1bde6c095dd801a4b") true
    replyAnew_row (fun _ h => by cases h) (by kernel_rfl) (fun _ h => by cases h) replyAnew_row_tie rfl ⟨rfl, rfl⟩ (by kernel_rfl) rfl
    (fun f fn hf hfn => by
      obtain rfl : f = 4 := Option.some.inj ((show Tryz.prog.funcNamed "glowworm/glowwormlaw16.ReplyAnew" = some 4 by kernel_rfl).symm.trans hf) |>.symm
      obtain rfl : fn = Tryz.f4 := (Option.some.inj (Tryz.func4.symm.trans hfn)).symm
      exact ⟨by kernel_rfl, fun j t ht => by
        rw [Tryz.params4] at ht
        have h3 : t = 22 ∨ t = 38 := by
          rcases j with _ | _ | _ | j
          · left; simpa using ht.symm
          · left; simpa using ht.symm
          · right; simpa using ht.symm
          · simp at ht
        rcases h3 with rfl | rfl
        · exact (show Tryz.prog.wantsStandIn 22 = false by kernel_rfl)
        · exact (show Tryz.prog.wantsStandIn 38 = false by kernel_rfl)⟩)
    (by kernel_rfl)
#print axioms replyAnew_holds
end Go.Proofs.YtdalcnjdpfnjjaaGreatDoor
