/- Each quiet operation of the evaluator is what the model does: the rest, and all of them in one theorem. -/
import Derived.Test.YtdalcnjdpfnjjaaGreatDoorEvH
import Derived.Laws.BytesString
import Derived.Laws.Cover4
set_option linter.unusedSimpArgs false
set_option linter.unusedVariables false
namespace Go.Ev
open Go

section
variable {P : Program} {w : World} {A : Around} {φ : Fi} {H : Heap} {nt : Nat} {fr : Fr} {a : Act} {nid : Nat} {pf : FuncId → Bool} {v : V} {ob : Option Obj} {e : EOp}

theorem set_push {α : Type} (x : Array α) (p q : α) : (x.push p).setIfInBounds x.size q = x.push q := by
  apply Array.ext'
  simp

theorem q_un {op : UnOp} {t : TypeId} {x : Operand} (hc : (opnd P.globals.size x).map (.un op) = some e) (hg : GlobAt φ P.globals.size) (hf : FR φ nt fr a.tmps) (hq : qop e fr H nid = some (v, ob)) :
    QGood φ w nid v ob ((do pure (Next.value (← Op.unary op (a.eval x))) : Sem Next).run P w) := by
  obtain ⟨x', h1, rfl⟩ := map_some hc
  have hx := opnd_sound hg hf h1
  simp only [qop] at hq
  split at hq
  · rename_i b e1
    rw [e1] at hx; simp at hq; obtain ⟨rfl, rfl⟩ := hq
    exact .sem (v' := .bool (!b)) (by rw [hx.of_bool]; rfl) (.bool _)
  · rename_i k n e1
    rw [e1] at hx; simp at hq; obtain ⟨rfl, rfl⟩ := hq
    exact .sem (v' := .int k (k.wrap (0 - n))) (by rw [hx.of_int]; rfl) (by simp; exact .int _ _)
  · rename_i k n e1
    rw [e1] at hx
    obtain ⟨r, hr, h⟩ := map_some hq
    simp at h; obtain ⟨rfl, rfl⟩ := h
    simp only [intOp] at hr
    injection hr with hr; subst hr
    exact .sem (v' := .int k _) (by rw [hx.of_int]; rfl) (.int _ _)
  · simp at hq

theorem u8_back (n : Int) (h : 0 ≤ n ∧ n < 256) : (UInt8.ofNat n.toNat).toNat = n.toNat := by
  simp; omega

theorem VRs.of_bytes : ∀ {cs : List V} {l : List Nat} {ls : List Value}, bytesOf cs = some l → VRs φ cs ls →
    ∃ ns : List Int, ls = ns.map (.int .u8) ∧ l = ns.map Int.toNat ∧ ∀ n ∈ ns, 0 ≤ n ∧ n < 256
  | [], l, ls, h, r => by simp [bytesOf] at h; subst h; rw [r.of_nil]; exact ⟨[], rfl, rfl, by simp⟩
  | c :: cs, l, ls, h, r => by
    obtain ⟨v', r', rfl, h1, h2⟩ := r.of_cons
    cases c with
    | int k n =>
      cases k <;> simp [bytesOf] at h
      obtain ⟨hn, l', hl, rfl⟩ := h
      obtain ⟨ns, e1, e2, e3⟩ := VRs.of_bytes hl h2
      refine ⟨n :: ns, by rw [h1.of_int, e1]; rfl, by rw [e2]; rfl, ?_⟩
      intro m hm
      rcases List.mem_cons.1 hm with rfl | hm
      · exact hn
      · exact e3 m hm
    | _ => simp [bytesOf] at h
theorem VRs.of_runes : ∀ {cs : List V} {l : List Nat} {ls : List Value}, runesOf cs = some l → VRs φ cs ls →
    ∃ ns : List Int, ls = ns.map (.int .i32) ∧ l = (ns.map fun n => ofBytes (Utf8.encode n)).flatten
  | [], l, ls, h, r => by simp [runesOf] at h; subst h; rw [r.of_nil]; exact ⟨[], rfl, rfl⟩
  | c :: cs, l, ls, h, r => by
    obtain ⟨v', r', rfl, h1, h2⟩ := r.of_cons
    cases c with
    | int k n =>
      cases k <;> simp [runesOf] at h
      obtain ⟨l', hl, rfl⟩ := h
      obtain ⟨ns, e1, e2⟩ := VRs.of_runes hl h2
      exact ⟨n :: ns, by rw [h1.of_int, e1]; rfl, by rw [e2]; rfl⟩
    | _ => simp [runesOf] at h

theorem push_bytes : ∀ (ns : List Int) (s : ByteArray), (∀ n ∈ ns, 0 ≤ n ∧ n < 256) → ofBytes (ns.foldl (fun r n => r.push (UInt8.ofNat n.toNat)) s) = ofBytes s ++ ns.map Int.toNat
  | [], s, _ => by simp
  | n :: ns, s, h => by
    simp only [List.foldl_cons, List.map_cons]
    rw [push_bytes ns _ (fun m hm => h m (by simp [hm]))]
    have : ofBytes (s.push (UInt8.ofNat n.toNat)) = ofBytes s ++ [n.toNat] := by
      simp only [ofBytes, ByteArray.data_push, Array.toList_push, List.map_append, List.map_cons, List.map_nil]
      have := h n (by simp)
      rw [u8_back n this]
    rw [this]; simp
theorem push_runes : ∀ (ns : List Int) (s : ByteArray), ofBytes (ns.foldl (fun r n => r ++ Utf8.encode n) s) = ofBytes s ++ (ns.map fun n => ofBytes (Utf8.encode n)).flatten
  | [], s => by simp
  | n :: ns, s => by
    simp only [List.foldl_cons, List.map_cons]
    rw [push_runes ns _, ofBytes_append]
    simp
theorem ofBytes_empty : ofBytes .empty = [] := rfl

theorem q_cvBS {s d el : TypeId} {x : Operand} {x' : EO} (hv : Inv A φ H w.heap) (h1 : P.underlying s = some (.slice el)) (h2 : P.underlying d = some .string) (h3 : P.underlying el = some (.int .u8)) (hx : VR φ (ev fr x') (a.eval x))
    (hq : qop (.cvBS x') fr H nid = some (v, ob)) :
    QGood φ w nid v ob ((do pure (Next.value (← convert s d (a.eval x))) : Sem Next).run P w) := by
  simp only [qop] at hq
  split at hq
  · rename_i cs hcs
    obtain ⟨l, hl, h⟩ := map_some hq
    simp at h; obtain ⟨rfl, rfl⟩ := h
    obtain ⟨ad, n, c, e1, e2, e3⟩ := slCells_read (P := P) hv hcs hx
    cases ad with
    | none =>
      obtain ⟨rfl, rfl, rfl⟩ := e3
      simp [bytesOf] at hl; subst hl
      refine .sem (v' := .string .empty) ?_ (.str _ _ rfl)
      simp [convert, run_under h1, run_under h2, run_under h3, e1, Conv.bytesToString]
    | some ad =>
      obtain ⟨arr, f1, f2, f3⟩ := e3
      obtain ⟨ns, g1, g2, g3⟩ := VRs.of_bytes hl f3
      simp at f1
      have harr : arr = (ns.map (Value.int .u8)).toArray := by apply Array.ext'; simpa using g1
      have hb := run_bytesToString (P := P) w ad n c ns (by rw [f1, harr])
      refine .sem (v' := .string (ns.foldl (fun r n => r.push (UInt8.ofNat n.toNat)) ByteArray.empty)) ?_ (.str _ _ ?_)
      · rw [e1, run_convert_bytes_string w s d el _ _ _ h1 h3 h2]; exact hb
      · rw [push_bytes ns _ g3, ofBytes_empty, g2]; rfl
  · simp at hq

theorem q_cvRS {s d el : TypeId} {x : Operand} {x' : EO} (hv : Inv A φ H w.heap) (h1 : P.underlying s = some (.slice el)) (h2 : P.underlying d = some .string) (h3 : P.underlying el = some (.int .i32)) (hx : VR φ (ev fr x') (a.eval x))
    (hq : qop (.cvRS x') fr H nid = some (v, ob)) :
    QGood φ w nid v ob ((do pure (Next.value (← convert s d (a.eval x))) : Sem Next).run P w) := by
  simp only [qop] at hq
  split at hq
  · rename_i cs hcs
    obtain ⟨l, hl, h⟩ := map_some hq
    simp at h; obtain ⟨rfl, rfl⟩ := h
    obtain ⟨ad, n, c, e1, e2, e3⟩ := slCells_read (P := P) hv hcs hx
    cases ad with
    | none =>
      obtain ⟨rfl, rfl, rfl⟩ := e3
      simp [runesOf] at hl; subst hl
      refine .sem (v' := .string .empty) ?_ (.str _ _ rfl)
      simp [convert, run_under h1, run_under h2, run_under h3, e1, Conv.runesToString]
    | some ad =>
      obtain ⟨arr, f1, f2, f3⟩ := e3
      obtain ⟨ns, g1, g2⟩ := VRs.of_runes hl f3
      have harr : arr = (ns.map (Value.int .i32)).toArray := by apply Array.ext'; simpa using g1
      have hb := run_runesToString (P := P) w ad n c ns (by simp at f1; rw [f1, harr])
      refine .sem (v' := .string (runesBytes ns)) ?_ (.str _ _ ?_)
      · rw [e1]
        simp only [convert, Sem.run_bind, run_under h1, run_under h2, run_under h3, Result.andThen_ok]
        exact hb
      · unfold runesBytes; rw [push_runes ns _, ofBytes_empty, g2]; rfl
  · simp at hq

theorem q_convert {s d : TypeId} {x : Operand} (hv : Inv A φ H w.heap) (hn : φ nid = none) (hc : compOp P pf (.convert s d x) = some e) (hl : e.loud = false) (hg : GlobAt φ P.globals.size) (hf : FR φ nt fr a.tmps) (hq : qop e fr H nid = some (v, ob)) :
    QGood φ w nid v ob ((do pure (Next.value (← convert s d (a.eval x))) : Sem Next).run P w) := by
  simp only [compOp] at hc
  split at hc
  · rename_i k1 k2 x' h1 h2 h3
    injection hc with hc; subst hc
    have hx := opnd_sound hg hf h3
    simp only [qop] at hq
    split at hq
    · rename_i k n e1
      rw [e1] at hx; simp at hq; obtain ⟨rfl, rfl⟩ := hq
      exact .sem (v' := .int k2 (k2.wrap n)) (by rw [hx.of_int]; simp [convert, run_under h1, run_under h2, Conv.intToInt]) (.int _ _)
    · simp at hq
  · rename_i x' h1 h2 h3
    injection hc with hc; subst hc
    have hx := opnd_sound hg hf h3
    simp only [qop] at hq
    split at hq
    · rename_i n e1
      rw [e1] at hx; simp at hq; obtain ⟨rfl, rfl⟩ := hq
      obtain ⟨bs, hb, e2⟩ := hx.of_str
      exact .sem (v' := .string bs) (by rw [hb]; simp [convert, run_under h1, run_under h2]) (.str _ _ e2)
    · simp at hq
  · rename_i el x' h1 h2 h3
    split at hc
    · rename_i h4
      split at hc
      · rename_i h5
        injection hc with hc; subst hc
        have hx := opnd_sound hg hf h3
        simp only [qop] at hq
        split at hq
        · rename_i n e1
          rw [e1] at hx; simp at hq; obtain ⟨rfl, rfl⟩ := hq
          obtain ⟨bs, hb, rfl⟩ := hx.of_str
          have hsz : (ofBytes bs).length = bs.size := ofBytes_size bs
          let cap := (Question.appendCap bs.size 0 el).cut (w.tape w.drawn (Question.appendCap bs.size 0 el))
          have hcap : bs.size ≤ cap := by simp [cap, Question.cut]
          let cells : Array Value := bs.data.map (fun b => Value.int .u8 b.toNat) ++ Array.replicate (cap - bs.size) (.int .u8 0)
          have hcs : cells.size = cap := by simp [cells]; have : bs.data.size = bs.size := rfl; omega
          let w2 : World := { w with drawn := w.drawn + 1, heap := w.heap.push (.cells cells el) }
          have hnew : w2.heap[w.heap.size]? = some (.cells cells el) := by simp [w2]
          have hfz : (w2.freeze ⟨w.heap.size, cap, none⟩ 1).heap = w.heap.push (.cells cells el (cap, cap + 1)) := by
            unfold World.freeze
            simp only [Nat.one_ne_zero, if_false]
            rw [heap_modify _ hnew]
            simp only [w2, beq_self_eq_true, if_true]
            exact set_push _ _ _
          refine ⟨.slice (some ⟨w.heap.size, 0, none⟩) bs.size cap, w2.freeze ⟨w.heap.size, cap, none⟩ 1, ?_, ⟨rfl, rfl⟩, .cells cells el (cap, cap + 1), cap, hfz, ?_, ?_⟩
          · rw [hb]
            have hsh : w2.shape? w.heap.size = some (el, cap) := by simp only [World.shape?, hnew, hcs]
            have hs1 : (Conv.stringToBytes el bs).run P w = .ok (.slice (some ⟨w.heap.size, 0, none⟩) bs.size cap) (w2.freeze ⟨w.heap.size, cap, none⟩ 1) := by
              simp only [Conv.stringToBytes, Sem.run_bind, run_choose, Question.forced, Bool.false_eq_true, if_false, Result.andThen_ok, run_newRow]
              change ((markStringish ⟨w.heap.size, 0, none⟩).run P w2).andThen _ = _
              simp only [markStringish, Sem.run_bind, run_shape, hsh, Result.andThen_ok, run_freeze]
              rfl
            simp only [convert, Sem.run_bind, run_under h1, run_under h2, run_under h4, Result.andThen_ok, hs1, Sem.run_pure]
          · have := VR.newSl φ nid w.heap.size cap bs.size cap 1 false hcap (fun h => by simp at h) (by omega)
            rwa [hsz]
          · refine ⟨cells, el, cap, cap + 1, rfl, hcs, by simp [hsz]; omega, fun k v hk => ?_, fun _ => .inr (by omega)⟩
            rw [List.getElem?_map] at hk
            obtain ⟨b, hb1, hb2⟩ := map_some hk
            rw [ofBytes_get] at hb1
            obtain ⟨b', hb3, hb4⟩ := map_some hb1
            subst hb4; subst hb2
            refine ⟨.int .u8 (b'.toNat : Int), ?_, .int _ _⟩
            have hlt : k < bs.data.size := by
              have : k < bs.size := by
                rcases Nat.lt_or_ge k bs.size with h | h
                · exact h
                · simp [h] at hb3
              exact this
            have hb5 : bs.data[k]? = some b' := hb3
            simp only [cells, Nat.zero_add]
            rw [Array.getElem?_append_left (by simpa using hlt)]
            simp [hb5]
        · simp at hq
      · simp at hc
    · simp at hc
  · rename_i e1 el x' h1 h2 h3
    split at hc
    · split at hc
      · injection hc with hc; subst hc; simp [EOp.loud] at hl
      · simp at hc
    · simp at hc
  · rename_i el x' h1 h2 h3
    split at hc
    · rename_i h4; injection hc with hc; subst hc; exact q_cvBS hv h1 h2 h4 (opnd_sound hg hf h3) hq
    · rename_i h4; injection hc with hc; subst hc; exact q_cvRS hv h1 h2 h4 (opnd_sound hg hf h3) hq
    · simp at hc
  · simp at hc

end
end Go.Ev
