/- The run of QueryOwn, over all paths at once. -/
import Derived.Test.YtdalcnjdpfnjjaaGreatDoorKn3
import Derived.Test.YtdalcnjdpfnjjaaGreatDoorRowB
set_option linter.unusedSimpArgs false
namespace Go.Proofs.YtdalcnjdpfnjjaaGreatDoor
open Go Go.Ev
set_option maxRecDepth 100000
/-- Ranges of an Xid and two numbers; what names are good; equality of numbers. -/
noncomputable def thOwn : Thy :=
  { cl := [[(.pr 0 [.ch (.lit 97)], true)], [(.pr 0 [.ch (.lit 98)], true)],
      [(.eqI (.var 2) (.var 0), true), (.eqI (.var 0) (.var 1), false), (.eqI (.var 2) (.var 1), false)],
      [(.eqI (.var 2) (.var 0), false), (.eqI (.var 0) (.var 1), true), (.eqI (.var 2) (.var 1), false)],
      [(.eqI (.var 2) (.var 0), false), (.eqI (.var 0) (.var 1), false), (.eqI (.var 2) (.var 1), true)]],
    rw := [],
    rg := [(.var 0, 0, 4294967295), (.var 1, 0, 4294967295), (.var 2, 0, 4294967295), (.var 3, 0, 4294967295), (.var 4, -9223372036854775808, 9223372036854775807), (.var 5, -9223372036854775808, 9223372036854775807)] }
theorem own_false : lawQ S3 200 5 [.int .u32 (.var 0), .int .u32 (.var 1), .agg [.int .u32 (.var 2), .int .u32 (.var 3), .int .i64 (.var 4), .int .i64 (.var 5), .bool false, .str [.sub 0 0 none]]] sglob thOwn [] = true := by kernel_rfl
theorem own_true : lawQ S3 200 5 [.int .u32 (.var 0), .int .u32 (.var 1), .agg [.int .u32 (.var 2), .int .u32 (.var 3), .int .i64 (.var 4), .int .i64 (.var 5), .bool true, .str [.sub 0 0 none]]] sglob thOwn [] = true := by kernel_rfl
theorem wf_u32 {a : Int} (h : (Lit.int .u32 a).wf = true) : 0 ≤ a ∧ a ≤ 4294967295 := by
  simp only [Lit.wf, Bool.and_eq_true, decide_eq_true_eq] at h
  exact ⟨h.1, h.2⟩
theorem wf_i64 {a : Int} (h : (Lit.int .i64 a).wf = true) : -9223372036854775808 ≤ a ∧ a ≤ 9223372036854775807 := by
  simp only [Lit.wf, Bool.and_eq_true, decide_eq_true_eq] at h
  exact ⟨h.1, h.2⟩
theorem mayN_a : mayN [97] = true := by decide +kernel
theorem mayN_b : mayN [98] = true := by decide +kernel
theorem ofBytes_ok {nk : ByteArray} (h : nk.size ≤ reachBytes) : (ofBytes nk).length ≤ 2 ^ 50 ∧ ∀ x ∈ ofBytes nk, x < 256 := by
  refine ⟨?_, ?_⟩
  · have h2 : reachBytes ≤ 2 ^ 50 := by decide
    have : (ofBytes nk).length = nk.size := by simp [ofBytes]
    omega
  · intro x hx
    simp only [ofBytes, List.mem_map] at hx
    obtain ⟨c, _, rfl⟩ := hx
    exact c.toNat_lt
theorem own_ok (a b f t sl ss : Int) (nk : List Nat) (hl : nk.length ≤ 2 ^ 50) (hb : ∀ x ∈ nk, x < 256) (wa : 0 ≤ a ∧ a ≤ 4294967295) (wb : 0 ≤ b ∧ b ≤ 4294967295) (wf : 0 ≤ f ∧ f ≤ 4294967295) (wt : 0 ≤ t ∧ t ≤ 4294967295)
    (wsl : -9223372036854775808 ≤ sl ∧ sl ≤ 9223372036854775807) (wss : -9223372036854775808 ≤ ss ∧ ss ≤ 9223372036854775807) :
    (valP (fun j => if j = 0 then a else if j = 1 then b else if j = 2 then f else if j = 3 then t else if j = 4 then sl else ss) (fun _ => nk)).Ok thOwn where
  len := fun _ => hl
  byte := fun _ x h => hb x h
  rw := fun _ h => by simp [thOwn] at h
  rg := fun x h => by
    simp only [thOwn, List.mem_cons, List.not_mem_nil, or_false] at h
    rcases h with rfl | rfl | rfl | rfl | rfl | rfl <;> (simp only [denI, valP, if_true, Nat.reduceEqDiff, if_false]; assumption)
  th := fun x h => by
    simp only [thOwn, List.mem_cons, List.not_mem_nil, or_false] at h
    rcases h with rfl | rfl | rfl | rfl | rfl
    · exact ⟨_, List.mem_cons_self, by simp only [denA, denS, denP, denI, valP, if_true]; exact mayN_a⟩
    · exact ⟨_, List.mem_cons_self, by simp only [denA, denS, denP, denI, valP, if_true]; exact mayN_b⟩
    all_goals simp only [List.mem_cons, List.not_mem_nil, or_false, exists_eq_or_imp, exists_eq_left, eq_t, eq_f, denI, valP, if_true, Nat.reduceEqDiff, if_false]; omega
theorem queryOwn_run (a b f t sl ss : Int) (an : Bool) (nk : ByteArray) (wa : (Lit.int .u32 a).wf = true) (wb : (Lit.int .u32 b).wf = true) (wf : (Lit.int .u32 f).wf = true) (wt : (Lit.int .u32 t).wf = true)
    (wsl : (Lit.int .i64 sl).wf = true) (wss : (Lit.int .i64 ss).wf = true) (wn : nk.size ≤ reachBytes) :
    ∃ n H', call E3 n 5 [.int .u32 a, .int .u32 b, .agg [.int .u32 f, .int .u32 t, .int .i64 sl, .int .i64 ss, .bool an, .str (ofBytes nk)]] glob = some (.bool true, H') := by
  obtain ⟨hl, hb⟩ := ofBytes_ok wn
  have ok := own_ok a b f t sl ss (ofBytes nk) hl hb (wf_u32 wa) (wf_u32 wb) (wf_u32 wf) (wf_u32 wt) (wf_i64 wsl) (wf_i64 wss)
  have key : ∀ an : Bool, lawQ S3 200 5 [.int .u32 (.var 0), .int .u32 (.var 1), .agg [.int .u32 (.var 2), .int .u32 (.var 3), .int .i64 (.var 4), .int .i64 (.var 5), .bool an, .str [.sub 0 0 none]]] sglob thOwn [] = true := fun an => by
    cases an
    · exact own_false
    · exact own_true
  obtain ⟨H', h⟩ := lawQ_ok ok (seOk3 ok) (Sat.nil _) (key an)
  rw [sglob_den] at h
  simp only [denVs, denV, denI, denS, denP, subL, valP, List.drop_zero, List.append_nil, if_true, Nat.one_ne_zero, Nat.reduceEqDiff, if_false] at h
  exact ⟨200, H', h⟩
end Go.Proofs.YtdalcnjdpfnjjaaGreatDoor
