/- Symbols: all quiet operations. -/
import Derived.Test.YtdalcnjdpfnjjaaGreatDoorSymC
set_option linter.unusedSimpArgs false
set_option linter.unusedVariables false
namespace Go.Ev
open Go

/-- Operations that look at no number. -/
noncomputable def plainS (op : EOp) (fr : SFr) (H : SHeap) (nid : Nat) : Option (SV × Option SObj) :=
  match op with
  | .mv x => some (evS fr x, none)
  | .pick c a b => match evS fr c with
    | .bool t => some (if t then evS fr a else evS fr b, none)
    | _ => none
  | .new zero => some (.ptr nid 0, some (.cells false (ofVs zero)))
  | .box x => some (.ptr nid 0, some (.cells false (evS fr x).cells))
  | .build zero parts => match fillS (ofVs zero) (parts.map fun p => (p.1, p.2.1, evS fr p.2.2)) with
    | some cs => some (.agg cs, none)
    | none => none
  | .bslice es n zero parts => match fillS (ofVs zero) (parts.map fun p => (p.1, p.2.1, evS fr p.2.2)) with
    | some cs => some (.sl nid 0 (.lit (n : Int)) es true, some (.cells false cs))
    | none => none
  | .ld1 a => match evS fr a with
    | .ptr i o => match H.get i with
      | .cells _ cs => match cs[o]? with
        | some v => some (v, none)
        | none => none
      | _ => none
    | _ => none
  | .ldn n a => match evS fr a with
    | .ptr i o => match H.get i with
      | .cells _ cs => if o + n ≤ cs.length then some (.agg ((cs.drop o).take n), none) else none
      | _ => none
    | _ => none
  | .nilchk x => match evS fr x with
    | .ptr i o => some (.ptr i o, none)
    | .fn f a b => some (.fn f a b, none)
    | _ => none
  | .beq neg x y => match evS fr x, evS fr y with
    | .bool a, .bool b => some (.bool (if neg then !(a == b) else (a == b)), none)
    | _, _ => none
  | .neq0 neg kd x y => match kd, evS fr x, evS fr y with
    | 0, .nilp, .nilp => some (.bool (if neg then !true else true), none)
    | 0, .nilp, .ptr _ _ => some (.bool (if neg then !false else false), none)
    | 0, .ptr _ _, .nilp => some (.bool (if neg then !false else false), none)
    | 1, .nils, .nils => some (.bool (if neg then !true else true), none)
    | 1, .nils, .sl _ _ _ _ _ => some (.bool (if neg then !false else false), none)
    | 1, .sl _ _ _ _ _, .nils => some (.bool (if neg then !false else false), none)
    | 2, .nilFn, .nilFn => some (.bool (if neg then !true else true), none)
    | 2, .nilFn, .fn _ _ _ => some (.bool (if neg then !false else false), none)
    | 2, .fn _ _ _, .nilFn => some (.bool (if neg then !false else false), none)
    | _, _, _ => none
  | .cvSS x => match evS fr x with
    | .str s => some (.str s, none)
    | _ => none
  | .cvSB x => match evS fr x with
    | .str s => (toCells s).map fun l => (.sl nid 0 (.lit (l.length : Int)) 1 false, some (.cells false l))
    | _ => none
  | .cvBS x => match slCellsS H 1 (evS fr x) with
    | some cs => (bytesS cs).map (.str ·, none)
    | none => none
  | .cvRS x => match slCellsS H 1 (evS fr x) with
    | some cs => match closeVs cs with
      | some cs => (runesOf cs).map (.str <| ofStr ·, none)
      | none => none
    | none => none
  | .mkI t x => some (.iface t (evS fr x), none)
  | .mkF f a b => some (.fn f (a.map (evS fr)) (b.map (evS fr)), none)
  | .mkSlice es bytes zero l c => match evS fr l, evS fr c with
    | .int .i64 (.lit l), .int .i64 (.lit c) =>
      if 0 ≤ l ∧ l ≤ c ∧ (bytes : Int) * c ≤ 2 ^ 48 ∧ zero.length = es ∧ 0 < es ∧ c < 2 ^ 62 then some (.sl nid 0 (.lit l) es (l == c), some (.cells false (repS c.toNat (ofVs zero)))) else none
    | _, _ => none
  | .slA es n x lo hi mx => match evS fr x with
    | .ptr i o => match H.get i with
      | .cells _ cs =>
        if o + n * es ≤ cs.length then
          match boundS (mx.map (evS fr)) n n with
          | some m => match boundS (hi.map (evS fr)) n m with
            | some h => match boundS (lo.map (evS fr)) 0 h with
              | some l => some (.sl i (o + l * es) (.lit ((h - l : Nat) : Int)) es (m == h), none)
              | none => none
            | none => none
          | none => none
        else none
      | _ => none
    | _ => none
  | .fa off x => match evS fr x with
    | .ptr i o => some (.ptr i (o + off), none)
    | _ => none
  | .fld1 off x => match evS fr x with
    | .agg cs => match cs[off]? with
      | some v => some (v, none)
      | none => none
    | _ => none
  | .fldn off n x => match evS fr x with
    | .agg cs => if off + n ≤ cs.length then some (.agg ((cs.drop off).take n), none) else none
    | _ => none
  | .rngS x => match evS fr x with
    | .str s => some (.ptr nid 0, some (.sit s 0))
    | _ => none
  | .tas t zero ok x => match evS fr x with
    | .iface t' v => if t' = t then some (if ok then .tup [v, .bool true] else v, none) else if ok then some (.tup [ofV zero, .bool false], none) else none
    | .nilI => if ok then some (.tup [ofV zero, .bool false], none) else none
    | _ => none
  | .ext x i => match evS fr x with
    | .tup vs => match vs[i]? with
      | some v => some (v, none)
      | none => none
    | _ => none
  | .lenS x => match evS fr x with
    | .str s => some (.int .i64 (lenSI s), none)
    | _ => none
  | .len x => match evS fr x with
    | .nils => some (.int .i64 (.lit 0), none)
    | _ => none
  | .cap x => match evS fr x with
    | .nils => some (.int .i64 (.lit 0), none)
    | .sl _ _ n _ true => match litN n with
      | some n => some (.int .i64 (.lit (n : Int)), none)
      | none => none
    | _ => none
  | _ => none

noncomputable def pl_mv (fr : SFr) (H : SHeap) (nid : Nat) (x : EO) : Option (SV × Option SObj) :=
  some (evS fr x, none)
noncomputable def pl_pick (fr : SFr) (H : SHeap) (nid : Nat) (c : EO) (a : EO) (b : EO) : Option (SV × Option SObj) :=
  match evS fr c with
  | .bool t => some (if t then evS fr a else evS fr b, none)
  | _ => none
noncomputable def pl_new (fr : SFr) (H : SHeap) (nid : Nat) (zero : List V) : Option (SV × Option SObj) :=
  some (.ptr nid 0, some (.cells false (ofVs zero)))
noncomputable def pl_box (fr : SFr) (H : SHeap) (nid : Nat) (x : EO) : Option (SV × Option SObj) :=
  some (.ptr nid 0, some (.cells false (evS fr x).cells))
noncomputable def pl_build (fr : SFr) (H : SHeap) (nid : Nat) (zero : List V) (parts : List (Nat × Nat × EO)) : Option (SV × Option SObj) :=
  match fillS (ofVs zero) (parts.map fun p => (p.1, p.2.1, evS fr p.2.2)) with
  | some cs => some (.agg cs, none)
  | none => none
noncomputable def pl_bslice (fr : SFr) (H : SHeap) (nid : Nat) (es : Nat) (n : Nat) (zero : List V) (parts : List (Nat × Nat × EO)) : Option (SV × Option SObj) :=
  match fillS (ofVs zero) (parts.map fun p => (p.1, p.2.1, evS fr p.2.2)) with
  | some cs => some (.sl nid 0 (.lit (n : Int)) es true, some (.cells false cs))
  | none => none
noncomputable def pl_ld1 (fr : SFr) (H : SHeap) (nid : Nat) (a : EO) : Option (SV × Option SObj) :=
  match evS fr a with
  | .ptr i o => match H.get i with
    | .cells _ cs => match cs[o]? with
      | some v => some (v, none)
      | none => none
    | _ => none
  | _ => none
noncomputable def pl_ldn (fr : SFr) (H : SHeap) (nid : Nat) (n : Nat) (a : EO) : Option (SV × Option SObj) :=
  match evS fr a with
  | .ptr i o => match H.get i with
    | .cells _ cs => if o + n ≤ cs.length then some (.agg ((cs.drop o).take n), none) else none
    | _ => none
  | _ => none
noncomputable def pl_nilchk (fr : SFr) (H : SHeap) (nid : Nat) (x : EO) : Option (SV × Option SObj) :=
  match evS fr x with
  | .ptr i o => some (.ptr i o, none)
  | .fn f a b => some (.fn f a b, none)
  | _ => none
noncomputable def pl_beq (fr : SFr) (H : SHeap) (nid : Nat) (neg : Bool) (x : EO) (y : EO) : Option (SV × Option SObj) :=
  match evS fr x, evS fr y with
  | .bool a, .bool b => some (.bool (if neg then !(a == b) else (a == b)), none)
  | _, _ => none
noncomputable def pl_neq0 (fr : SFr) (H : SHeap) (nid : Nat) (neg : Bool) (kd : Nat) (x : EO) (y : EO) : Option (SV × Option SObj) :=
  match kd, evS fr x, evS fr y with
  | 0, .nilp, .nilp => some (.bool (if neg then !true else true), none)
  | 0, .nilp, .ptr _ _ => some (.bool (if neg then !false else false), none)
  | 0, .ptr _ _, .nilp => some (.bool (if neg then !false else false), none)
  | 1, .nils, .nils => some (.bool (if neg then !true else true), none)
  | 1, .nils, .sl _ _ _ _ _ => some (.bool (if neg then !false else false), none)
  | 1, .sl _ _ _ _ _, .nils => some (.bool (if neg then !false else false), none)
  | 2, .nilFn, .nilFn => some (.bool (if neg then !true else true), none)
  | 2, .nilFn, .fn _ _ _ => some (.bool (if neg then !false else false), none)
  | 2, .fn _ _ _, .nilFn => some (.bool (if neg then !false else false), none)
  | _, _, _ => none
noncomputable def pl_cvSS (fr : SFr) (H : SHeap) (nid : Nat) (x : EO) : Option (SV × Option SObj) :=
  match evS fr x with
  | .str s => some (.str s, none)
  | _ => none
noncomputable def pl_cvSB (fr : SFr) (H : SHeap) (nid : Nat) (x : EO) : Option (SV × Option SObj) :=
  match evS fr x with
  | .str s => (toCells s).map fun l => (.sl nid 0 (.lit (l.length : Int)) 1 false, some (.cells false l))
  | _ => none
noncomputable def pl_cvBS (fr : SFr) (H : SHeap) (nid : Nat) (x : EO) : Option (SV × Option SObj) :=
  match slCellsS H 1 (evS fr x) with
  | some cs => (bytesS cs).map (.str ·, none)
  | none => none
noncomputable def pl_cvRS (fr : SFr) (H : SHeap) (nid : Nat) (x : EO) : Option (SV × Option SObj) :=
  match slCellsS H 1 (evS fr x) with
  | some cs => match closeVs cs with
    | some cs => (runesOf cs).map (.str <| ofStr ·, none)
    | none => none
  | none => none
noncomputable def pl_mkI (fr : SFr) (H : SHeap) (nid : Nat) (t : TypeId) (x : EO) : Option (SV × Option SObj) :=
  some (.iface t (evS fr x), none)
noncomputable def pl_mkF (fr : SFr) (H : SHeap) (nid : Nat) (f : FuncId) (a : List EO) (b : List EO) : Option (SV × Option SObj) :=
  some (.fn f (a.map (evS fr)) (b.map (evS fr)), none)
noncomputable def pl_mkSlice (fr : SFr) (H : SHeap) (nid : Nat) (es : Nat) (bytes : Nat) (zero : List V) (l : EO) (c : EO) : Option (SV × Option SObj) :=
  match evS fr l, evS fr c with
  | .int .i64 (.lit l), .int .i64 (.lit c) =>
    if 0 ≤ l ∧ l ≤ c ∧ (bytes : Int) * c ≤ 2 ^ 48 ∧ zero.length = es ∧ 0 < es ∧ c < 2 ^ 62 then some (.sl nid 0 (.lit l) es (l == c), some (.cells false (repS c.toNat (ofVs zero)))) else none
  | _, _ => none
noncomputable def pl_slA (fr : SFr) (H : SHeap) (nid : Nat) (es : Nat) (n : Nat) (x : EO) (lo : Option EO) (hi : Option EO) (mx : Option EO) : Option (SV × Option SObj) :=
  match evS fr x with
  | .ptr i o => match H.get i with
    | .cells _ cs =>
      if o + n * es ≤ cs.length then
        match boundS (mx.map (evS fr)) n n with
        | some m => match boundS (hi.map (evS fr)) n m with
          | some h => match boundS (lo.map (evS fr)) 0 h with
            | some l => some (.sl i (o + l * es) (.lit ((h - l : Nat) : Int)) es (m == h), none)
            | none => none
          | none => none
        | none => none
      else none
    | _ => none
  | _ => none
noncomputable def pl_fa (fr : SFr) (H : SHeap) (nid : Nat) (off : Nat) (x : EO) : Option (SV × Option SObj) :=
  match evS fr x with
  | .ptr i o => some (.ptr i (o + off), none)
  | _ => none
noncomputable def pl_fld1 (fr : SFr) (H : SHeap) (nid : Nat) (off : Nat) (x : EO) : Option (SV × Option SObj) :=
  match evS fr x with
  | .agg cs => match cs[off]? with
    | some v => some (v, none)
    | none => none
  | _ => none
noncomputable def pl_fldn (fr : SFr) (H : SHeap) (nid : Nat) (off : Nat) (n : Nat) (x : EO) : Option (SV × Option SObj) :=
  match evS fr x with
  | .agg cs => if off + n ≤ cs.length then some (.agg ((cs.drop off).take n), none) else none
  | _ => none
noncomputable def pl_rngS (fr : SFr) (H : SHeap) (nid : Nat) (x : EO) : Option (SV × Option SObj) :=
  match evS fr x with
  | .str s => some (.ptr nid 0, some (.sit s 0))
  | _ => none
noncomputable def pl_tas (fr : SFr) (H : SHeap) (nid : Nat) (t : TypeId) (zero : V) (ok : Bool) (x : EO) : Option (SV × Option SObj) :=
  match evS fr x with
  | .iface t' v => if t' = t then some (if ok then .tup [v, .bool true] else v, none) else if ok then some (.tup [ofV zero, .bool false], none) else none
  | .nilI => if ok then some (.tup [ofV zero, .bool false], none) else none
  | _ => none
noncomputable def pl_ext (fr : SFr) (H : SHeap) (nid : Nat) (x : EO) (i : Nat) : Option (SV × Option SObj) :=
  match evS fr x with
  | .tup vs => match vs[i]? with
    | some v => some (v, none)
    | none => none
  | _ => none
noncomputable def pl_lenS (fr : SFr) (H : SHeap) (nid : Nat) (x : EO) : Option (SV × Option SObj) :=
  match evS fr x with
  | .str s => some (.int .i64 (lenSI s), none)
  | _ => none
noncomputable def pl_len (fr : SFr) (H : SHeap) (nid : Nat) (x : EO) : Option (SV × Option SObj) :=
  match evS fr x with
  | .nils => some (.int .i64 (.lit 0), none)
  | _ => none
noncomputable def pl_cap (fr : SFr) (H : SHeap) (nid : Nat) (x : EO) : Option (SV × Option SObj) :=
  match evS fr x with
  | .nils => some (.int .i64 (.lit 0), none)
  | .sl _ _ n _ true => match litN n with
    | some n => some (.int .i64 (.lit (n : Int)), none)
    | none => none
  | _ => none
noncomputable def qs_ibin (fr : SFr) (H : SHeap) (nid : Nat) (op : BinOp) (x : EO) (y : EO) : SM (SV × Option SObj) :=
  (ibinS op (evS fr x) (evS fr y)).bind fun v => .ret (v, none)
noncomputable def qs_sbin (fr : SFr) (H : SHeap) (nid : Nat) (op : BinOp) (x : EO) (y : EO) : SM (SV × Option SObj) :=
  match evS fr x, evS fr y with
  | .str a, .str b => (strOpS op a b).bind fun v => .ret (v, none)
  | _, _ => .fail
noncomputable def qs_aeq (fr : SFr) (H : SHeap) (nid : Nat) (neg : Bool) (ks : List Nat) (x : EO) (y : EO) : SM (SV × Option SObj) :=
  match evS fr x, evS fr y with
  | .agg a, .agg b => if a.length = ks.length ∧ b.length = ks.length then (cellsEqS ks a b).bind fun e => .ret (.bool (if neg then !e else e), none) else .fail
  | _, _ => .fail
noncomputable def qs_un (fr : SFr) (H : SHeap) (nid : Nat) (op : UnOp) (x : EO) : SM (SV × Option SObj) :=
  match op, evS fr x with
  | .not, .bool b => .ret (.bool (!b), none)
  | .neg, .int k n => (retI k (opI .sub k (.lit 0) n)).bind fun v => .ret (v, none)
  | .xor, .int k n => (retI k (opI .xor k (.lit (if k.signed then -1 else k.max)) n)).bind fun v => .ret (v, none)
  | _, _ => .fail
noncomputable def qs_cvI (fr : SFr) (H : SHeap) (nid : Nat) (k : IntKind) (x : EO) : SM (SV × Option SObj) :=
  match evS fr x with
  | .int _ n => (retI k (cvI k n)).bind fun v => .ret (v, none)
  | _ => .fail
noncomputable def qs_slS (fr : SFr) (H : SHeap) (nid : Nat) (x : EO) (lo : Option EO) (hi : Option EO) : SM (SV × Option SObj) :=
  match evS fr x with
  | .str s => (cutHi s (hi.map (evS fr))).bind fun r => (cutLo r.1 r.2 (lo.map (evS fr))).bind fun s => .ret (.str s, none)
  | _ => .fail
noncomputable def qs_slL (fr : SFr) (H : SHeap) (nid : Nat) (es : Nat) (x : EO) (lo : Option EO) (hi : Option EO) (mx : Option EO) : SM (SV × Option SObj) :=
  match evS fr x with
  | .nils => match boundS (mx.map (evS fr)) 0 0, boundS (hi.map (evS fr)) 0 0, boundS (lo.map (evS fr)) 0 0 with
    | some _, some _, some _ => .ret (.nils, none)
    | _, _, _ => .fail
  | .sl i o n es' full => if es' = es then (slCut es i o n full (lo.map (evS fr)) (hi.map (evS fr)) (mx.map (evS fr))).bind fun v => .ret (v, none) else .fail
  | _ => .fail
noncomputable def qs_ia (fr : SFr) (H : SHeap) (nid : Nat) (es : Nat) (x : EO) (i : EO) : SM (SV × Option SObj) :=
  match evS fr x, evS fr i with
  | .sl b o n es' _, .int _ k => if es' = es then (placeSl k n).bind fun k => .ret (.ptr b (o + k * es), none) else .fail
  | _, _ => .fail
noncomputable def qs_iaA (fr : SFr) (H : SHeap) (nid : Nat) (es : Nat) (len : Nat) (x : EO) (i : EO) : SM (SV × Option SObj) :=
  match evS fr x, evS fr i with
  | .ptr b o, .int _ k => (placeN k len).bind fun k => .ret (.ptr b (o + k * es), none)
  | _, _ => .fail
noncomputable def qs_ixS (fr : SFr) (H : SHeap) (nid : Nat) (x : EO) (i : EO) : SM (SV × Option SObj) :=
  match evS fr x, evS fr i with
  | .str s, .int _ k => match litN k with
    | some k => (pcAt s k).bind fun a => .ret (.int .u8 a, none)
    | none => .fail
  | _, _ => .fail
noncomputable def qs_ixA1 (fr : SFr) (H : SHeap) (nid : Nat) (es : Nat) (len : Nat) (x : EO) (i : EO) : SM (SV × Option SObj) :=
  match evS fr x, evS fr i with
  | .agg cs, .int _ k => (placeN k len).bind fun k => match cs[k * es]? with
    | some v => .ret (v, none)
    | none => .fail
  | _, _ => .fail
noncomputable def qs_ixAn (fr : SFr) (H : SHeap) (nid : Nat) (es : Nat) (len : Nat) (x : EO) (i : EO) : SM (SV × Option SObj) :=
  match evS fr x, evS fr i with
  | .agg cs, .int _ k => (placeN k len).bind fun k => if k * es + es ≤ cs.length then .ret (.agg ((cs.drop (k * es)).take es), none) else .fail
  | _, _ => .fail
noncomputable def qs_mx (fr : SFr) (H : SHeap) (nid : Nat) (args : List EO) : SM (SV × Option SObj) :=
  match args.map (evS fr) with
  | v :: r => (maxS v r).bind fun v => .ret (v, none)
  | [] => .fail
noncomputable def qs_mn (fr : SFr) (H : SHeap) (nid : Nat) (args : List EO) : SM (SV × Option SObj) :=
  match args.map (evS fr) with
  | v :: r => (minS v r).bind fun v => .ret (v, none)
  | [] => .fail
noncomputable def qs_len (fr : SFr) (H : SHeap) (nid : Nat) (x : EO) : SM (SV × Option SObj) :=
  match evS fr x with
  | .sl _ _ n _ _ => match litN n with
    | some n => .ret (.int .i64 (.lit (n : Int)), none)
    | none => (SM.need (.ltI n (.lit 0)) false).bind fun _ => .ret (.int .i64 n, none)
  | _ => SM.ofOpt (plainS (.len x) fr H nid)
noncomputable def qopS (op : EOp) (fr : SFr) (H : SHeap) (nid : Nat) : SM (SV × Option SObj) :=
  match op with
  | .mv x => SM.ofOpt (pl_mv fr H nid x)
  | .pick c a b => SM.ofOpt (pl_pick fr H nid c a b)
  | .new zero => SM.ofOpt (pl_new fr H nid zero)
  | .box x => SM.ofOpt (pl_box fr H nid x)
  | .build zero parts => SM.ofOpt (pl_build fr H nid zero parts)
  | .bslice es n zero parts => SM.ofOpt (pl_bslice fr H nid es n zero parts)
  | .ld1 a => SM.ofOpt (pl_ld1 fr H nid a)
  | .ldn n a => SM.ofOpt (pl_ldn fr H nid n a)
  | .nilchk x => SM.ofOpt (pl_nilchk fr H nid x)
  | .beq neg x y => SM.ofOpt (pl_beq fr H nid neg x y)
  | .neq0 neg kd x y => SM.ofOpt (pl_neq0 fr H nid neg kd x y)
  | .cvSS x => SM.ofOpt (pl_cvSS fr H nid x)
  | .cvSB x => SM.ofOpt (pl_cvSB fr H nid x)
  | .cvBS x => SM.ofOpt (pl_cvBS fr H nid x)
  | .cvRS x => SM.ofOpt (pl_cvRS fr H nid x)
  | .mkI t x => SM.ofOpt (pl_mkI fr H nid t x)
  | .mkF f a b => SM.ofOpt (pl_mkF fr H nid f a b)
  | .mkSlice es bytes zero l c => SM.ofOpt (pl_mkSlice fr H nid es bytes zero l c)
  | .slA es n x lo hi mx => SM.ofOpt (pl_slA fr H nid es n x lo hi mx)
  | .fa off x => SM.ofOpt (pl_fa fr H nid off x)
  | .fld1 off x => SM.ofOpt (pl_fld1 fr H nid off x)
  | .fldn off n x => SM.ofOpt (pl_fldn fr H nid off n x)
  | .rngS x => SM.ofOpt (pl_rngS fr H nid x)
  | .tas t zero ok x => SM.ofOpt (pl_tas fr H nid t zero ok x)
  | .ext x i => SM.ofOpt (pl_ext fr H nid x i)
  | .lenS x => SM.ofOpt (pl_lenS fr H nid x)
  | .cap x => SM.ofOpt (pl_cap fr H nid x)
  | .ibin op x y => qs_ibin fr H nid op x y
  | .sbin op x y => qs_sbin fr H nid op x y
  | .aeq neg ks x y => qs_aeq fr H nid neg ks x y
  | .un op x => qs_un fr H nid op x
  | .cvI k x => qs_cvI fr H nid k x
  | .slS x lo hi => qs_slS fr H nid x lo hi
  | .slL es x lo hi mx => qs_slL fr H nid es x lo hi mx
  | .ia es x i => qs_ia fr H nid es x i
  | .iaA es len x i => qs_iaA fr H nid es len x i
  | .ixS x i => qs_ixS fr H nid x i
  | .ixA1 es len x i => qs_ixA1 fr H nid es len x i
  | .ixAn es len x i => qs_ixAn fr H nid es len x i
  | .mx args => qs_mx fr H nid args
  | .mn args => qs_mn fr H nid args
  | .len x => qs_len fr H nid x
  | _ => .fail

section
variable {ρ : Val} {Th : Thy}

def QR (ρ : Val) (op : EOp) (fr : SFr) (H : SHeap) (nid : Nat) (r : SV × Option SObj) : Prop :=
  qop op (denF ρ fr) (denH ρ H) nid = some (denV ρ r.1, r.2.map (denO ρ))

theorem parts_den (fr : SFr) (ps : List (Nat × Nat × EO)) : (ps.map fun p => (p.1, p.2.1, ev (denF ρ fr) p.2.2)) = (ps.map fun p => (p.1, p.2.1, evS fr p.2.2)).map fun p => (p.1, p.2.1, denV ρ p.2.2) := by
  rw [List.map_map]
  refine List.map_congr_left fun p _ => ?_
  simp only [Function.comp, ev_den]

theorem opt_ev_den (fr : SFr) (x : Option EO) : x.map (ev (denF ρ fr)) = (x.map (evS fr)).map (denV ρ) := by
  cases x with
  | none => rfl
  | some y => simp only [Option.map_some, ev_den]

theorem plainS_ok (ok : ρ.Ok Th) {op : EOp} {fr : SFr} {H : SHeap} {nid : Nat} {r : SV × Option SObj} (h : plainS op fr H nid = some r) : QR ρ op fr H nid r := by
  unfold QR
  cases op with
  | mv x => simp only [plainS, Option.some.injEq] at h; subst h; simp only [qop, ev_den, Option.map_none]
  | pick c a b =>
    simp only [plainS] at h
    split at h
    · rename_i t ht
      injection h with h; subst h
      simp only [qop, ev_den, ht, denV]
      cases t <;> rfl
    · simp at h
  | new z => simp only [plainS, Option.some.injEq] at h; subst h; simp only [qop, denV, Option.map_some, denO, den_ofVs]
  | box x => simp only [plainS, Option.some.injEq] at h; subst h; simp only [qop, ev_den, denV, Option.map_some, denO, cells_den]
  | build z ps =>
    simp only [plainS] at h
    split at h
    · rename_i cs hcs
      injection h with h; subst h
      have := fillS_ok (ρ := ρ) _ _ _ hcs
      rw [den_ofVs] at this
      simp only [qop, parts_den, this, denV, Option.map_none]
    · simp at h
  | bslice es n z ps =>
    simp only [plainS] at h
    split at h
    · rename_i cs hcs
      injection h with h; subst h
      have := fillS_ok (ρ := ρ) _ _ _ hcs
      rw [den_ofVs] at this
      simp only [qop, parts_den, this, denV, denI, Option.map_some, denO, Int.toNat_natCast]
    · simp at h
  | ld1 a =>
    simp only [plainS] at h
    split at h
    · rename_i i o hp
      split at h
      · rename_i ro cs hg
        split at h
        · rename_i v hv
          injection h with h; subst h
          simp only [qop, ev_den, hp, denV, denH_get, hg, denO, denVs_get, hv, Option.map_some, Option.map_none]
        · simp at h
      · simp at h
    · simp at h
  | ldn n a =>
    simp only [plainS] at h
    split at h
    · rename_i i o hp
      split at h
      · rename_i ro cs hg
        split at h
        · rename_i hv
          injection h with h; subst h
          simp only [qop, ev_den, hp, denV, denH_get, hg, denO, denVs_len, denVs_take, denVs_drop, Option.map_none]
          rw [if_pos hv]
        · simp at h
      · simp at h
    · simp at h
  | nilchk x =>
    simp only [plainS] at h
    split at h
    · rename_i hp; injection h with h; subst h; simp only [qop, ev_den, hp, denV, Option.map_none]
    · rename_i hp; injection h with h; subst h; simp only [qop, ev_den, hp, denV, Option.map_none]
    · simp at h
  | beq neg x y =>
    simp only [plainS] at h
    split at h
    · rename_i h1 h2
      injection h with h; subst h
      simp only [qop, ev_den, h1, h2, denV, neg?, Option.map_none]
    · simp at h
  | neq0 neg kd x y =>
    simp only [plainS] at h
    split at h
    all_goals first | (simp at h; done) | (rename_i h1 h2; injection h with h; subst h; simp only [qop, ev_den, h1, h2, denV, neg?, Option.map_none])
  | cvSS x =>
    simp only [plainS] at h
    split at h
    · rename_i hp; injection h with h; subst h; simp only [qop, ev_den, hp, denV, Option.map_none]
    · simp at h
  | cvSB x =>
    simp only [plainS] at h
    split at h
    · rename_i s hp
      obtain ⟨l, h1, h2⟩ := map_some' h
      subst h2
      have := toCells_ok ok h1
      have hl : (denS ρ s).length = l.length := by
        have := congrArg List.length this
        simpa [denVs_len] using this.symm
      simp only [qop, ev_den, hp, denV, denI, Option.map_some, denO, this, hl, Int.toNat_natCast]
    · simp at h
  | cvBS x =>
    simp only [plainS] at h
    split at h
    · rename_i cs hcs
      obtain ⟨l, h1, h2⟩ := map_some' h
      subst h2
      simp only [qop, ev_den, slCellsS_ok hcs, bytesS_ok ok h1, Option.map_some, denV, Option.map_none]
    · simp at h
  | cvRS x =>
    simp only [plainS] at h
    split at h
    · rename_i cs hcs
      split at h
      · rename_i cs' hcl
        obtain ⟨l, h1, h2⟩ := map_some' h
        subst h2
        simp only [qop, ev_den, slCellsS_ok hcs, closeVs_ok _ _ hcl, h1, Option.map_some, denV, Option.map_none, den_ofStr]
      · simp at h
    · simp at h
  | mkI t x => simp only [plainS, Option.some.injEq] at h; subst h; simp only [qop, ev_den, denV, Option.map_none]
  | mkF f a b => simp only [plainS, Option.some.injEq] at h; subst h; simp only [qop, map_ev_den, denV, Option.map_none]
  | mkSlice es bytes z l c =>
    simp only [plainS] at h
    split at h
    · rename_i l' c' h1 h2
      split at h
      · rename_i hc
        injection h with h; subst h
        simp only [qop, ev_den, h1, h2, denV, denI, Option.map_some, denO, ofVs_rep]
        rw [if_pos hc]
      · simp at h
    · simp at h
  | slA es n x lo hi mx =>
    simp only [plainS] at h
    split at h
    · rename_i i o hp
      split at h
      · rename_i ro cs hg
        split at h
        · rename_i hle
          split at h
          · rename_i m hm
            split at h
            · rename_i hh hhh
              split at h
              · rename_i l hl
                injection h with h; subst h
                simp only [qop, ev_den, hp, denV, denH_get, hg, denO, denVs_len, opt_ev_den, boundS_ok hm, boundS_ok hhh, boundS_ok hl, denI, Option.map_none, Int.toNat_natCast]
                rw [if_pos hle]
              · simp at h
            · simp at h
          · simp at h
        · simp at h
      · simp at h
    · simp at h
  | fa off x =>
    simp only [plainS] at h
    split at h
    · rename_i hp; injection h with h; subst h; simp only [qop, ev_den, hp, denV, Option.map_none]
    · simp at h
  | fld1 off x =>
    simp only [plainS] at h
    split at h
    · rename_i cs hp
      split at h
      · rename_i v hv
        injection h with h; subst h
        simp only [qop, ev_den, hp, denV, denVs_get, hv, Option.map_some, Option.map_none]
      · simp at h
    · simp at h
  | fldn off n x =>
    simp only [plainS] at h
    split at h
    · rename_i cs hp
      split at h
      · rename_i hv
        injection h with h; subst h
        simp only [qop, ev_den, hp, denV, denVs_len, denVs_take, denVs_drop, Option.map_none]
        rw [if_pos hv]
      · simp at h
    · simp at h
  | rngS x =>
    simp only [plainS] at h
    split at h
    · rename_i hp; injection h with h; subst h; simp only [qop, ev_den, hp, denV, Option.map_some, denO]
    · simp at h
  | tas t z okb x =>
    simp only [plainS] at h
    split at h
    · rename_i t' v hp
      split at h
      · rename_i ht
        injection h with h; subst h
        simp only [qop, ev_den, hp, denV, Option.map_none]
        rw [if_pos ht]
        cases okb <;> simp [denV, denVs]
      · rename_i ht
        split at h
        · rename_i hok
          injection h with h; subst h
          simp only [qop, ev_den, hp, denV, Option.map_none]
          rw [if_neg ht, if_pos hok]
          simp [denV, denVs, den_ofV]
        · simp at h
    · rename_i hp
      split at h
      · rename_i hok
        injection h with h; subst h
        simp only [qop, ev_den, hp, denV, Option.map_none]
        rw [if_pos hok]
        simp [denV, denVs, den_ofV]
      · simp at h
    · simp at h
  | ext x i =>
    simp only [plainS] at h
    split at h
    · rename_i vs hp
      split at h
      · rename_i v hv
        injection h with h; subst h
        simp only [qop, ev_den, hp, denV, denVs_get, hv, Option.map_some, Option.map_none]
      · simp at h
    · simp at h
  | lenS x =>
    simp only [plainS] at h
    split at h
    · rename_i hp; injection h with h; subst h; simp only [qop, ev_den, hp, denV, lenSI_den, Option.map_none]
    · simp at h
  | len x =>
    simp only [plainS] at h
    split at h
    · rename_i hp; injection h with h; subst h; simp only [qop, ev_den, hp, denV, denI, Option.map_none]
    · simp at h
  | cap x =>
    simp only [plainS] at h
    split at h
    · rename_i hp; injection h with h; subst h; simp only [qop, ev_den, hp, denV, denI, Option.map_none]
    · rename_i n es hp
      split at h
      · rename_i n' h1
        injection h with h; subst h
        simp only [qop, ev_den, hp, denV, denI, Option.map_none, litN_ok h1, Int.toNat_natCast]
      · simp at h
    · simp at h
  | _ => simp [plainS] at h

theorem qopS_ok (ok : ρ.Ok Th) (op : EOp) (fr : SFr) (H : SHeap) (nid : Nat) : Snd ρ Th (qopS op fr H nid) (QR ρ op fr H nid) := by
  have pl : Snd ρ Th (SM.ofOpt (plainS op fr H nid)) (QR ρ op fr H nid) := Snd.ofOpt fun r h => plainS_ok ok h
  cases op with
  | ibin o x y =>
    simp only [qopS, qs_ibin]
    have base : Snd ρ Th (ibinS o (evS fr x) (evS fr y)) fun v => qop (.ibin o x y) (denF ρ fr) (denH ρ H) nid = some (denV ρ v, none) := by
      unfold ibinS
      split
      · rename_i k a l b h1 h2
        refine (shiftOpS_ok ok _ _ _ _).mono fun v hv => ?_
        simp only [qop, ev_den, h1, h2, denV, hv, Option.map_some]
      · rename_i k a l b h1 h2
        refine (shiftOpS_ok ok _ _ _ _).mono fun v hv => ?_
        simp only [qop, ev_den, h1, h2, denV, hv, Option.map_some]
      · rename_i o2 o3 xx yy k a l b hn1 hn2 h1 h2
        split
        · rename_i hk
          refine (intOpS_ok ok _ _ _ _).mono fun v hv => ?_
          cases o2 <;> first | (simp only [qop, ev_den, h1, h2, denV, hv, Option.map_some]; rw [if_pos hk]; done) | exact (hn1 rfl).elim | exact (hn2 rfl).elim | (simp [intOp] at hv)
        · exact Snd.fail
      · exact Snd.fail
    exact base.bind fun v hv => .ret (by unfold QR; rw [hv]; rfl)
  | sbin o x y =>
    simp only [qopS, qs_sbin]
    split
    · rename_i a b h1 h2
      refine (strOpS_ok ok o a b).bind fun v hv => .ret ?_
      unfold QR
      simp only [qop, ev_den, h1, h2, denV, hv, Option.map_some, Option.map_none]
    · exact Snd.fail
  | aeq neg ks x y =>
    simp only [qopS, qs_aeq]
    split
    · rename_i a b h1 h2
      split
      · rename_i hl
        refine (cellsEqS_ok ok ks a b).bind fun v hv => .ret ?_
        unfold QR
        simp only [qop, ev_den, h1, h2, denV, denVs_len, hv, Option.map_some, Option.map_none]
        rw [if_pos hl]; rfl
      · exact Snd.fail
    · exact Snd.fail
  | un o x =>
    simp only [qopS, qs_un]
    split
    · rename_i b h1
      refine .ret ?_
      unfold QR
      simp only [qop, ev_den, h1, denV, Option.map_none]
    · rename_i k n h1
      refine (Snd.retI (P := fun v => denV ρ v = .int k (k.wrap (0 - denI ρ n))) ok fun z hz => ?_).bind fun v hv => .ret ?_
      · simp only [denV, hz, opI_den, arith, denI]
      · unfold QR
        simp only [qop, ev_den, h1, denV, hv, Option.map_none]
    · rename_i k n h1
      refine (Snd.retI (P := fun v => denV ρ v = .int k (arith .xor k (if k.signed then -1 else k.max) (denI ρ n))) ok fun z hz => ?_).bind fun v hv => .ret ?_
      · simp only [denV, hz, opI_den, denI]
      · unfold QR
        simp only [qop, ev_den, h1, denV, hv, Option.map_none, intOp, Option.map_some, arith]
    · exact Snd.fail
  | cvI k x =>
    simp only [qopS, qs_cvI]
    split
    · rename_i k' n h1
      refine (Snd.retI (P := fun v => denV ρ v = .int k (k.wrap (denI ρ n))) ok fun z hz => ?_).bind fun v hv => .ret ?_
      · simp only [denV, hz, cvI_den]
      · unfold QR
        simp only [qop, ev_den, h1, denV, hv, Option.map_none]
    · exact Snd.fail
  | slS x lo hi =>
    simp only [qopS, qs_slS]
    split
    · rename_i s h1
      refine (cutHi_ok ok s _).bind fun r ⟨h, a1, a2, a3, a4⟩ => (cutLo_ok ok a2 r.2 _).bind fun s' ⟨l, b1, b2⟩ => .ret ?_
      unfold QR
      simp only [qop, ev_den, h1, denV, opt_ev_den, a1, b1, b2, a3, Option.map_none]
    · exact Snd.fail
  | slL es x lo hi mx =>
    simp only [qopS, qs_slL]
    split
    · rename_i h1
      split
      · rename_i m hh l e1 e2 e3
        refine .ret ?_
        unfold QR
        simp only [qop, ev_den, h1, denV, opt_ev_den, boundS_ok e1, boundS_ok e2, boundS_ok e3, Option.map_none]
      · exact Snd.fail
    · rename_i i o n es' full h1
      split
      · rename_i he
        refine (slCut_ok ok es i o n full _ _ _).bind fun v hv => .ret ?_
        unfold QR
        simp only [qop, ev_den, h1, denV, opt_ev_den, Option.map_none]
        rw [if_pos he, ← hv]
        cases mx <;> rfl
      · exact Snd.fail
    · exact Snd.fail
  | ia es x i =>
    simp only [qopS, qs_ia]
    split
    · rename_i b o n es' f k k' h1 h2
      split
      · rename_i he
        refine (placeSl_ok ok _ _).bind fun j ⟨e1, e2⟩ => .ret ?_
        unfold QR
        simp only [qop, ev_den, h1, h2, denV, e1, Option.map_none]
        rw [if_pos ⟨he, by omega, e2⟩]
        simp
      · exact Snd.fail
    · exact Snd.fail
  | iaA es n x i =>
    simp only [qopS, qs_iaA]
    split
    · rename_i b o k k' h1 h2
      refine (placeN_ok ok _ _).bind fun j ⟨e1, e2⟩ => .ret ?_
      unfold QR
      simp only [qop, ev_den, h1, h2, denV, e1, Option.map_none]
      rw [if_pos ⟨by omega, by omega⟩]
      simp
    · exact Snd.fail
  | ixS x i =>
    simp only [qopS, qs_ixS]
    split
    · rename_i s k a h1 h2
      split
      · rename_i j hj
        refine (pcAt_ok ok s j).bind fun c ⟨b, e1, e2⟩ => .ret ?_
        unfold QR
        simp only [qop, ev_den, h1, h2, denV, litN_ok hj, Option.map_none, Int.toNat_natCast, e1, e2]
        rw [if_pos (by omega)]
      · exact Snd.fail
    · exact Snd.fail
  | ixA1 es n x i =>
    simp only [qopS, qs_ixA1]
    split
    · rename_i cs k a h1 h2
      refine (placeN_ok ok _ _).bind fun j ⟨e1, e2⟩ => ?_
      split
      · rename_i v hv
        refine .ret ?_
        unfold QR
        simp only [qop, ev_den, h1, h2, denV, e1, Option.map_none, Int.toNat_natCast, denVs_get, hv, Option.map_some]
        rw [if_pos ⟨by omega, by omega⟩]
      · exact Snd.fail
    · exact Snd.fail
  | ixAn es n x i =>
    simp only [qopS, qs_ixAn]
    split
    · rename_i cs k a h1 h2
      refine (placeN_ok ok _ _).bind fun j ⟨e1, e2⟩ => ?_
      split
      · rename_i hle
        refine .ret ?_
        unfold QR
        simp only [qop, ev_den, h1, h2, denV, e1, Option.map_none, Int.toNat_natCast, denVs_len, denVs_take, denVs_drop]
        rw [if_pos ⟨by omega, by omega, hle⟩]
      · exact Snd.fail
    · exact Snd.fail
  | mx args =>
    simp only [qopS, qs_mx]
    split
    · rename_i v r hargs
      refine (maxS_ok ok r v).bind fun a ha => .ret ?_
      unfold QR
      simp only [qop, map_ev_den, hargs, denVs, ha, Option.map_some, Option.map_none]
    · exact Snd.fail
  | mn args =>
    simp only [qopS, qs_mn]
    split
    · rename_i v r hargs
      refine (minS_ok ok r v).bind fun a ha => .ret ?_
      unfold QR
      simp only [qop, map_ev_den, hargs, denVs, ha, Option.map_some, Option.map_none]
    · exact Snd.fail
  | len x =>
    simp only [qopS, qs_len]
    split
    · rename_i i o n es f h1
      split
      · rename_i n' hn
        refine .ret ?_
        unfold QR
        simp only [qop, ev_den, h1, denV, denI, Option.map_none, litN_ok hn, Int.toNat_natCast]
      · refine (Snd.need ok _ _).bind fun _ h => .ret ?_
        have h' : ¬ denI ρ n < 0 := of_decide_eq_false h
        unfold QR
        simp only [qop, ev_den, h1, denV, Option.map_none]
        rw [Int.toNat_of_nonneg (by omega)]
    · exact pl
  | _ => first | exact pl | exact Snd.fail
end
end Go.Ev
