/- Names, byte by byte: what a rune is, which kind it has, what may be a name. No program in sight. -/
import Derived.Test.YtdalcnjdpfnjjaaGreatDoorEvA
set_option linter.unusedSimpArgs false
set_option linter.unusedVariables false
namespace Go.Ev
open Go

def kindN (r : Int) : Int :=
  if (97 ≤ r ∧ r ≤ 122) ∨ (65 ≤ r ∧ r ≤ 90) then 1
  else if 48 ≤ r ∧ r ≤ 57 then 2
  else if 32 ≤ r ∧ r ≤ 126 then 3
  else if 160 ≤ r ∧ r ≤ 1114111 ∧ r ≠ 65533 ∧ (r < 55296 ∨ 57343 < r) then 4 else 0

/-- Byte k, 0 behind the end. -/
def byt (t : List Nat) (k : Nat) : Nat := t[k]?.getD 0
def ctn (t : List Nat) (k : Nat) : Prop := k < t.length ∧ 128 ≤ byt t k ∧ byt t k < 192
instance (t : List Nat) (k : Nat) : Decidable (ctn t k) := by unfold ctn; exact inferInstance
def fine (least r : Nat) : Prop := least ≤ r ∧ (r < 55296 ∨ 57344 ≤ r) ∧ r ≤ 1114111
instance (l r : Nat) : Decidable (fine l r) := by unfold fine; exact inferInstance
/-- The rune at the front, and its bytes; none: broken. -/
def dec (t : List Nat) : Option (Nat × Nat) :=
  if byt t 0 < 128 then some (byt t 0, 1)
  else if byt t 0 < 194 then none
  else if byt t 0 < 224 then
    if ctn t 1 ∧ fine 128 ((byt t 0 - 192) * 64 + (byt t 1 - 128)) then some ((byt t 0 - 192) * 64 + (byt t 1 - 128), 2) else none
  else if byt t 0 < 240 then
    if ctn t 1 ∧ ctn t 2 ∧ fine 2048 (((byt t 0 - 224) * 64 + (byt t 1 - 128)) * 64 + (byt t 2 - 128)) then some (((byt t 0 - 224) * 64 + (byt t 1 - 128)) * 64 + (byt t 2 - 128), 3) else none
  else if byt t 0 < 245 then
    if ctn t 1 ∧ ctn t 2 ∧ ctn t 3 ∧ fine 65536 ((((byt t 0 - 240) * 64 + (byt t 1 - 128)) * 64 + (byt t 2 - 128)) * 64 + (byt t 3 - 128)) then some ((((byt t 0 - 240) * 64 + (byt t 1 - 128)) * 64 + (byt t 2 - 128)) * 64 + (byt t 3 - 128), 4) else none
  else none
theorem dec_pos {t : List Nat} {r n : Nat} (h : dec t = some (r, n)) (ht : t ≠ []) : 1 ≤ n ∧ n ≤ t.length := by
  have hl : 0 < t.length := List.length_pos_iff.2 ht
  unfold dec at h
  repeat' split at h
  all_goals first
    | (simp at h; done)
    | (simp at h; first | omega | (simp only [ctn] at *; omega))

theorem byt_toBytes (s : List Nat) (hs : ∀ x ∈ s, x < 256) (k : Nat) : ((toBytes s).get! k).toNat = byt s k := by
  unfold toBytes byt ByteArray.get!
  simp only [List.getElem!_toArray, List.getElem!_eq_getElem?_getD, List.getElem?_map]
  cases h : s[k]? with
  | none => rfl
  | some x =>
    have := hs x (List.mem_of_getElem? h)
    simp; omega
theorem toBytes_size (s : List Nat) : (toBytes s).size = s.length := by simp [toBytes, ByteArray.size]
theorem byt_drop (s : List Nat) (i k : Nat) : byt (s.drop i) k = byt s (i + k) := by simp [byt, List.getElem?_drop]

def dp (o : Option (Nat × Nat)) : Nat × Nat := match o with | some (r, n) => (r, n) | none => (65533, 1)
theorem dp_ite (c : Prop) [Decidable c] (a b : Option (Nat × Nat)) : dp (if c then a else b) = if c then dp a else dp b := by split <;> rfl
theorem dp_some (r n : Nat) : dp (some (r, n)) = (r, n) := rfl
theorem dp_none : dp none = (65533, 1) := rfl
set_option maxRecDepth 10000 in
theorem decode_dec (s : List Nat) (hs : ∀ x ∈ s, x < 256) (i : Nat) (hi : i < s.length) :
    Utf8.decode (toBytes s) i = dp (dec (s.drop i)) := by
  have hb : ∀ k, byt (s.drop i) k < 256 := fun k => by
    rw [byt_drop]; unfold byt
    cases h : s[i + k]? with
    | none => simp
    | some x => have := hs x (List.mem_of_getElem? h); simpa using this
  have hl : (s.drop i).length = s.length - i := by simp
  unfold Utf8.decode
  simp only [byt_toBytes s hs, toBytes_size]
  have e : ∀ k, byt s (i + k) = byt (s.drop i) k := fun k => (byt_drop s i k).symm
  simp only [e]
  have hc : ∀ k, (decide (i + k < s.length) && byt (s.drop i) k / 64 == 2) = decide (ctn (s.drop i) k) := by
    intro k
    rw [Bool.eq_iff_iff]
    simp only [Bool.and_eq_true, decide_eq_true_eq, beq_iff_eq, ctn, hl]
    have := hb k
    omega
  simp only [hc]
  have h0 := hb 0
  have h1 := hb 1
  have h2 := hb 2
  have h3 := hb 3
  unfold dec
  have g1 : ctn (s.drop i) 1 → 128 ≤ byt (s.drop i) 1 ∧ byt (s.drop i) 1 < 192 := fun h => h.2
  have g2 : ctn (s.drop i) 2 → 128 ≤ byt (s.drop i) 2 ∧ byt (s.drop i) 2 < 192 := fun h => h.2
  have g3 : ctn (s.drop i) 3 → 128 ≤ byt (s.drop i) 3 ∧ byt (s.drop i) 3 < 192 := fun h => h.2
  have q : ∀ c : Nat, Utf8.valid (c : Int) = decide ((c < 55296 ∨ 57344 ≤ c) ∧ c ≤ 1114111) := by
    intro c
    rw [Bool.eq_iff_iff]
    simp only [Utf8.valid, Bool.or_eq_true, Bool.and_eq_true, decide_eq_true_eq]
    omega
  simp only [dp_ite, dp_some, dp_none]
  simp only [q, Utf8.runeError]
  clear hc e hb q hl
  generalize byt (s.drop i) 0 = b0 at *
  generalize byt (s.drop i) 1 = b1 at *
  generalize byt (s.drop i) 2 = b2 at *
  generalize byt (s.drop i) 3 = b3 at *
  have fin : ∀ {p q : Prop} [Decidable p] [Decidable q] {a b c d : Nat × Nat}, (p ↔ q) → (p → a = c) → b = d → (if p then a else b) = (if q then c else d) := by
    intro p q _ _ a b c d h h1 h2
    by_cases hp : p
    · rw [if_pos hp, if_pos (h.1 hp)]; exact h1 hp
    · rw [if_neg hp, if_neg (fun hq => hp (h.2 hq))]; exact h2
  by_cases k0 : b0 < 128
  · rw [if_pos k0, if_pos k0]
  rw [if_neg k0, if_neg k0]
  by_cases k192 : b0 < 192
  · have a1 : (b0 / 32 == 6) = false := by simp; omega
    have a2 : (b0 / 16 == 14) = false := by simp; omega
    have a3 : (b0 / 8 == 30) = false := by simp; omega
    simp only [a1, a2, a3, Bool.true_and, Bool.false_and, Bool.false_eq_true, if_false, decide_eq_true_eq, Bool.and_eq_true]
    rw [if_pos (show b0 < 194 by omega)]
  by_cases k194 : b0 < 194
  · have a1 : (b0 / 32 == 6) = true := by simp; omega
    have a2 : (b0 / 16 == 14) = false := by simp; omega
    have a3 : (b0 / 8 == 30) = false := by simp; omega
    simp only [a1, a2, a3, Bool.true_and, Bool.false_and, Bool.false_eq_true, if_false, decide_eq_true_eq, Bool.and_eq_true]
    rw [if_pos (show b0 < 194 by omega)]
    split
    · rename_i hx
      have := g1 hx
      rw [if_neg (by omega)]
    · rfl
  by_cases k224 : b0 < 224
  · have a1 : (b0 / 32 == 6) = true := by simp; omega
    have a2 : (b0 / 16 == 14) = false := by simp; omega
    have a3 : (b0 / 8 == 30) = false := by simp; omega
    simp only [a1, a2, a3, Bool.true_and, Bool.false_and, Bool.false_eq_true, if_false, decide_eq_true_eq, Bool.and_eq_true]
    rw [if_neg (show ¬ b0 < 194 by omega)]
    rw [if_pos (show b0 < 224 by omega)]
    by_cases x1 : ctn (s.drop i) 1
    · have := g1 x1
      rw [if_pos x1]
      refine fin ⟨fun h => ⟨x1, by unfold fine; omega⟩, fun h => by have := h.2; unfold fine at this; omega⟩ (fun h => by congr 1; omega) rfl
    · rw [if_neg x1, if_neg (fun h => x1 h.1)]
  by_cases k240 : b0 < 240
  · have a1 : (b0 / 32 == 6) = false := by simp; omega
    have a2 : (b0 / 16 == 14) = true := by simp; omega
    have a3 : (b0 / 8 == 30) = false := by simp; omega
    simp only [a1, a2, a3, Bool.true_and, Bool.false_and, Bool.false_eq_true, if_false, decide_eq_true_eq, Bool.and_eq_true]
    rw [if_neg (show ¬ b0 < 194 by omega)]
    rw [if_neg (show ¬ b0 < 224 by omega)]
    rw [if_pos (show b0 < 240 by omega)]
    by_cases x1 : ctn (s.drop i) 1 ∧ ctn (s.drop i) 2
    · have := g1 x1.1
      have := g2 x1.2
      rw [if_pos x1]
      refine fin ⟨fun h => ⟨x1.1, x1.2, by unfold fine; omega⟩, fun h => by have := h.2.2; unfold fine at this; omega⟩ (fun h => by congr 1; omega) rfl
    · rw [if_neg x1, if_neg (fun h => x1 ⟨h.1, h.2.1⟩)]
  by_cases k245 : b0 < 245
  · have a1 : (b0 / 32 == 6) = false := by simp; omega
    have a2 : (b0 / 16 == 14) = false := by simp; omega
    have a3 : (b0 / 8 == 30) = true := by simp; omega
    simp only [a1, a2, a3, Bool.true_and, Bool.false_and, Bool.false_eq_true, if_false, decide_eq_true_eq, Bool.and_eq_true]
    rw [if_neg (show ¬ b0 < 194 by omega)]
    rw [if_neg (show ¬ b0 < 224 by omega)]
    rw [if_neg (show ¬ b0 < 240 by omega)]
    rw [if_pos (show b0 < 245 by omega)]
    by_cases x1 : (ctn (s.drop i) 1 ∧ ctn (s.drop i) 2) ∧ ctn (s.drop i) 3
    · have := g1 x1.1.1
      have := g2 x1.1.2
      have := g3 x1.2
      rw [if_pos x1]
      refine fin ⟨fun h => ⟨x1.1.1, x1.1.2, x1.2, by unfold fine; omega⟩, fun h => by have := h.2.2.2; unfold fine at this; omega⟩ (fun h => by congr 1; omega) rfl
    · rw [if_neg x1, if_neg (fun h => x1 ⟨⟨h.1, h.2.1⟩, h.2.2.1⟩)]
  by_cases k248 : b0 < 248
  · have a1 : (b0 / 32 == 6) = false := by simp; omega
    have a2 : (b0 / 16 == 14) = false := by simp; omega
    have a3 : (b0 / 8 == 30) = true := by simp; omega
    simp only [a1, a2, a3, Bool.true_and, Bool.false_and, Bool.false_eq_true, if_false, decide_eq_true_eq, Bool.and_eq_true]
    rw [if_neg (show ¬ b0 < 194 by omega)]
    rw [if_neg (show ¬ b0 < 224 by omega)]
    rw [if_neg (show ¬ b0 < 240 by omega)]
    rw [if_neg (show ¬ b0 < 245 by omega)]
    split
    · rename_i hx
      have := g1 hx.1.1
      have := g2 hx.1.2
      have := g3 hx.2
      rw [if_neg (by omega)]
    · rfl
  have a1 : (b0 / 32 == 6) = false := by simp; omega
  have a2 : (b0 / 16 == 14) = false := by simp; omega
  have a3 : (b0 / 8 == 30) = false := by simp; omega
  simp only [a1, a2, a3, Bool.true_and, Bool.false_and, Bool.false_eq_true, if_false, decide_eq_true_eq, Bool.and_eq_true]
  rw [if_neg (show ¬ b0 < 194 by omega)]
  rw [if_neg (show ¬ b0 < 224 by omega)]
  rw [if_neg (show ¬ b0 < 240 by omega)]
  rw [if_neg (show ¬ b0 < 245 by omega)]

/-- What may be a name, but for its length. -/
def mayF : Nat → List Nat → Bool
  | 0, t => decide (t = [])
  | k + 1, t => if t = [] then true else match dec t with
    | none => false
    | some (r, n) => if kindN r = 0 then false else mayF k (t.drop n)
theorem mayF_fuel : ∀ (k j : Nat) (t : List Nat), t.length ≤ k → t.length ≤ j → mayF k t = mayF j t
  | 0, j, t, h, hj => by
    have : t = [] := List.length_eq_zero_iff.1 (by omega)
    subst this
    cases j <;> simp [mayF]
  | k + 1, 0, t, h, hj => by
    have : t = [] := List.length_eq_zero_iff.1 (by omega)
    subst this
    simp [mayF]
  | k + 1, j + 1, t, h, hj => by
    simp only [mayF]
    by_cases ht : t = []
    · simp [ht]
    · rw [if_neg ht, if_neg ht]
      cases hd : dec t with
      | none => rfl
      | some x =>
        obtain ⟨r, n⟩ := x
        have := dec_pos hd ht
        simp only
        rw [mayF_fuel k j (t.drop n) (by simp; omega) (by simp; omega)]
def mayT (t : List Nat) : Bool := mayF t.length t
theorem mayT_nil : mayT [] = true := rfl
theorem mayT_none {t : List Nat} (ht : t ≠ []) (hd : dec t = none) : mayT t = false := by
  unfold mayT
  cases h : t.length with
  | zero => exact absurd (List.length_eq_zero_iff.1 h) ht
  | succ k => simp [mayF, ht, hd]
theorem mayT_some {t : List Nat} {r n : Nat} (ht : t ≠ []) (hd : dec t = some (r, n)) : mayT t = if kindN r = 0 then false else mayT (t.drop n) := by
  unfold mayT
  have hp := dec_pos hd ht
  cases h : t.length with
  | zero => exact absurd (List.length_eq_zero_iff.1 h) ht
  | succ k =>
    simp only [mayF, ht, if_false, hd]
    rw [mayF_fuel k (t.drop n).length (t.drop n) (by simp; omega) (Nat.le_refl _)]
/-- What may be a name. -/
def mayN (s : List Nat) : Bool := mayT s && decide (s.length ≤ 20)
end Go.Ev
