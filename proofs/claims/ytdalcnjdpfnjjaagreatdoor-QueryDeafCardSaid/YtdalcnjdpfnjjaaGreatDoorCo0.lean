/- The program's functions as the evaluator has them. Printed by our own program (wip/PrintE.lean). -/
import Derived.Test.YtdalcnjdpfnjjaaGreatDoorCoD
namespace Go.Proofs.YtdalcnjdpfnjjaaGreatDoor.Co
open Go Go.Ev
/- glowworm/glowwormlaw16.QueryDeaf -/
noncomputable def e3 : EFunc := EFunc.mk 74 true
 (s (o [p 3 (.box (t 0)),
  p 6 (.mv (.c (.bool false)))])
 (s (o [p 12 (.pcall 8 []),
  p 7 (.mv (t 12))])
 (s (s (o [p 13 (.mv (t 7)),
  p 14 (.un .not (t 13))])
 (EC.cond (t 14)
 (s (o [p 6 (.mv (.c (.bool false)))])
 (EC.ret))
 (EC.skip)))
 (s (o [p 15 (.ldn 6 (t 3)),
  p 16 (.pcall 9 [(t 15)]),
  q (.st 6 (t 3) (t 16))])
 (s (o [p 17 (.bslice 1 3 [(.int .i64 0), (.int .i64 0), (.int .i64 0)] [(0, 1, (ii 1)), (1, 1, (ii 6)), (2, 1, (ii 8))]),
  p 18 (.mv (t 1)),
  p 19 (.ibin .rem (t 18) (ii 3)),
  p 20 (.ibin .add (t 19) (ii 3)),
  p 21 (.ibin .rem (t 20) (ii 3)),
  p 22 (.ia 1 (t 17) (t 21)),
  p 23 (.ld1 (t 22)),
  p 1 (.mv (t 23))])
 (s (o [p 24 (.mv (t 2)),
  p 25 (.ibin .rem (t 24) (ii 100)),
  p 26 (.ibin .add (t 25) (ii 100)),
  p 27 (.ibin .rem (t 26) (ii 100)),
  p 2 (.mv (t 27))])
 (s (o [p 28 (.mv (t 1)),
  p 29 (.call 10 [(.c (.int .u32 77)), (.c (.str [110])), (t 28)]),
  p 8 (.mv (t 29))])
 (s (s (o [p 9 (.mv (ii 0))])
 (EC.block 0 (EC.loop (s (s (o [p 30 (.mv (t 9)),
  p 31 (.mv (t 2)),
  p 32 (.ibin .lss (t 30) (t 31))])
 (EC.cond (t 32)
 (EC.skip)
 (EC.exit 0)))
 (s (EC.block 1 (o [p 35 (.mv (t 8)),
  p 36 (.call 11 [(t 35)])]))
 (o [p 33 (.mv (t 9)),
  p 34 (.ibin .add (t 33) (ii 1)),
  p 9 (.mv (t 34))]))))))
 (s (o [p 37 (.mv (t 8)),
  p 38 (.ldn 6 (t 3)),
  p 39 (.call 12 [(t 37), (t 38)]),
  p 10 (.mv (t 39))])
 (s (o [p 40 (.mv (t 2)),
  p 41 (.ibin .gtr (t 40) (ii 0)),
  p 42 (.mv (t 41)),
  w (some 43) (some (42, true)) (.mv (t 2)) 0 0 0,
  w (some 44) (some (42, true)) (.mv (t 1)) 0 0 0,
  w (some 45) (some (42, true)) (.ibin .mul (t 44) (ii 8)) 0 0 0,
  w (some 46) (some (42, true)) (.ibin .add (t 45) (ii 1)) 0 0 0,
  w (some 47) (some (42, true)) (.ibin .leq (t 43) (t 46)) 0 0 0,
  p 48 (.pick (t 42) (t 47) (.c (.bool false))),
  p 49 (.mv (t 48)),
  w (some 50) (some (49, true)) (.fa 1 (t 3)) 0 0 0,
  w (some 51) (some (49, true)) (.ld1 (t 50)) 0 0 0,
  w (some 52) (some (49, true)) (.ibin .eql (t 51) (.c (.int .u32 77))) 0 0 0,
  p 53 (.pick (t 49) (t 52) (.c (.bool false))),
  p 54 (.mv (t 53)),
  w (some 55) (some (54, true)) (.fa 0 (t 3)) 0 0 0,
  w (some 56) (some (54, true)) (.ld1 (t 55)) 0 0 0,
  w (some 57) (some (54, true)) (.ibin .neq (t 56) (.c (.int .u32 77))) 0 0 0,
  p 58 (.pick (t 54) (t 57) (.c (.bool false))),
  p 59 (.mv (t 58)),
  w (some 60) (some (59, true)) (.ldn 6 (t 3)) 0 0 0,
  w (some 61) (some (59, true)) (.pcall 13 [(t 60)]) 0 0 0,
  p 62 (.pick (t 59) (t 61) (.c (.bool false))),
  p 11 (.mv (t 62))])
 (s (o [p 63 (.mv (t 10)),
  p 64 (.mv (t 11)),
  p 65 (.beq false (t 63) (t 64)),
  p 66 (.mv (t 65)),
  w (some 67) (some (66, true)) (.mv (t 8)) 0 0 0,
  w (some 68) (some (66, true)) (.call 14 [(t 67)]) 0 0 0,
  w (some 69) (some (66, true)) (.call 15 [(t 68)]) 0 0 0,
  w (some 70) (some (66, true)) (.mv (t 11)) 0 0 0,
  w (some 71) (some (66, true)) (.pcall 16 [(t 70)]) 0 0 0,
  w (some 72) (some (66, true)) (.ibin .eql (t 69) (t 71)) 0 0 0,
  p 73 (.pick (t 66) (t 72) (.c (.bool false))),
  p 6 (.mv (t 73))])
 (EC.ret))))))))))))
 [.t 6]
/- glowworm/glowwormlaw16.ReplyAnew -/
noncomputable def e4 : EFunc := EFunc.mk 105 false
 (s (o [p 6 (.mv (.c (.bool false)))])
 (s (o [p 17 (.pcall 8 []),
  p 7 (.mv (t 17))])
 (s (s (o [p 18 (.mv (t 7)),
  p 19 (.un .not (t 18))])
 (EC.cond (t 19)
 (s (o [p 6 (.mv (.c (.bool false)))])
 (EC.ret))
 (EC.skip)))
 (s (o [p 20 (.mv (t 2)),
  p 21 (.mv (t 2)),
  p 22 (.len (t 21)),
  p 23 (.mn [(t 22), (ii 6)]),
  p 24 (.slL 1 (t 20) none (some (t 23)) none),
  p 2 (.mv (t 24))])
 (s (o [p 25 (.mv (t 0)),
  p 26 (.call 17 [(t 25), (.c (.str [110]))]),
  p 8 (.mv (t 26))])
 (s (s (o [p 27 (.mv (t 8)),
  p 28 (.neq0 false 0 (t 27) (.c .nilp))])
 (EC.cond (t 28)
 (s (o [p 29 (.mv (t 0)),
  p 30 (.pcall 18 [(t 29)]),
  p 31 (.un .not (t 30)),
  p 6 (.mv (t 31))])
 (EC.ret))
 (EC.skip)))
 (s (o [p 33 (.mv (t 8)),
  p 34 (.mv (t 1)),
  p 35 (.build [(.int .u32 0), (.int .u32 0), (.int .i64 0), (.int .i64 0), (.bool false), (.str [])] [(0, 1, (.c (.int .u32 5))), (1, 1, (t 34)), (3, 1, (ii 1)), (4, 1, (.c (.bool true)))]),
  p 36 (.mv (t 2)),
  p 37 (.call 19 [(t 33), (t 35), (t 36)]),
  p 32 (.mv (t 37)),
  p 38 (.ext (t 32) 0),
  p 39 (.ext (t 32) 1),
  p 40 (.ext (t 32) 2),
  p 9 (.new [(.int .u32 0), (.int .u32 0), (.int .i64 0), (.int .i64 0), (.bool false), (.str [])]),
  q (.st 6 (t 9) (t 38)),
  p 10 (.mv (t 39)),
  p 11 (.mv (t 40))])
 (s (o [p 42 (.mv (t 2)),
  p 43 (.mv (t 0)),
  p 44 (.bslice 1 1 [(.int .u32 0)] [(0, 1, (t 43))]),
  p 45 (.call 20 [(t 42), (t 44)]),
  p 41 (.mv (t 45)),
  p 46 (.ext (t 41) 0),
  p 47 (.ext (t 41) 1),
  p 12 (.mv (t 46)),
  p 13 (.mv (t 47))])
 (s (s (o [p 48 (.mv (t 1)),
  p 49 (.mv (t 0)),
  p 50 (.ibin .neq (t 48) (t 49))])
 (EC.cond (t 50)
 (s (o [p 51 (.mv (t 11)),
  p 52 (.un .not (t 51)),
  p 53 (.mv (t 52)),
  w (some 54) (some (53, true)) (.mv (t 10)) 0 0 0,
  w (some 55) (some (53, true)) (.ibin .eql (t 54) (ii 0)) 0 0 0,
  p 56 (.pick (t 53) (t 55) (.c (.bool false))),
  p 57 (.mv (t 56)),
  w (some 58) (some (57, true)) (.mv (t 8)) 0 0 0,
  w (some 59) (some (57, true)) (.call 21 [(t 58)]) 0 0 0,
  w (some 60) (some (57, true)) (.mv (t 0)) 0 0 0,
  w (some 61) (some (57, true)) (.ibin .eql (t 59) (t 60)) 0 0 0,
  p 62 (.pick (t 57) (t 61) (.c (.bool false))),
  p 63 (.mv (t 62)),
  w (some 64) (some (63, true)) (.ldn 6 (t 9)) 0 0 0,
  w (some 65) (some (63, true)) (.build [(.int .u32 0), (.int .u32 0), (.int .i64 0), (.int .i64 0), (.bool false), (.str [])] []) 0 0 0,
  w (some 66) (some (63, true)) (.aeq false [1, 1, 1, 1, 0, 2] (t 64) (t 65)) 0 0 0,
  p 67 (.pick (t 63) (t 66) (.c (.bool false))),
  p 6 (.mv (t 67))])
 (EC.ret))
 (EC.skip)))
 (s (s (o [p 68 (.mv (t 11)),
  p 69 (.mv (t 68)),
  w (some 70) (some (69, false)) (.mv (t 10)) 0 0 0,
  w (some 71) (some (69, false)) (.mv (t 13)) 0 0 0,
  w (some 72) (some (69, false)) (.ibin .neq (t 70) (t 71)) 0 0 0,
  p 73 (.pick (t 69) (.c (.bool true)) (t 72)),
  p 74 (.mv (t 73)),
  w (some 75) (some (74, false)) (.mv (t 8)) 0 0 0,
  w (some 76) (some (74, false)) (.call 21 [(t 75)]) 0 0 0,
  w (some 77) (some (74, false)) (.mv (t 12)) 0 0 0,
  w (some 78) (some (74, false)) (.ibin .neq (t 76) (t 77)) 0 0 0,
  p 79 (.pick (t 74) (.c (.bool true)) (t 78)),
  p 80 (.mv (t 79)),
  w (some 81) (some (80, false)) (.mv (t 8)) 0 0 0,
  w (some 82) (some (80, false)) (.call 21 [(t 81)]) 0 0 0,
  w (some 83) (some (80, false)) (.mv (t 0)) 0 0 0,
  w (some 84) (some (80, false)) (.ibin .eql (t 82) (t 83)) 0 0 0,
  p 85 (.pick (t 80) (.c (.bool true)) (t 84))])
 (EC.cond (t 85)
 (s (o [p 6 (.mv (.c (.bool false)))])
 (EC.ret))
 (EC.skip)))
 (s (o [p 87 (.mv (t 8)),
  p 88 (.build [(.int .u32 0), (.int .u32 0), (.int .i64 0), (.int .i64 0), (.bool false), (.str [])] [(0, 1, (.c (.int .u32 5))), (3, 1, (ii 1))]),
  p 89 (.call 19 [(t 87), (t 88), (.c .nils)]),
  p 86 (.mv (t 89)),
  p 90 (.ext (t 86) 0),
  p 91 (.ext (t 86) 1),
  p 92 (.ext (t 86) 2),
  p 14 (.new [(.int .u32 0), (.int .u32 0), (.int .i64 0), (.int .i64 0), (.bool false), (.str [])]),
  q (.st 6 (t 14) (t 90)),
  p 15 (.mv (t 91)),
  p 16 (.mv (t 92))])
 (s (o [p 93 (.mv (t 16)),
  p 94 (.mv (t 93)),
  w (some 95) (some (94, true)) (.fa 0 (t 14)) 0 0 0,
  w (some 96) (some (94, true)) (.ld1 (t 95)) 0 0 0,
  w (some 97) (some (94, true)) (.mv (t 12)) 0 0 0,
  w (some 98) (some (94, true)) (.ibin .eql (t 96) (t 97)) 0 0 0,
  p 99 (.pick (t 94) (t 98) (.c (.bool false))),
  p 100 (.mv (t 99)),
  w (some 101) (some (100, true)) (.fa 1 (t 14)) 0 0 0,
  w (some 102) (some (100, true)) (.ld1 (t 101)) 0 0 0,
  w (some 103) (some (100, true)) (.ibin .eql (t 102) (.c (.int .u32 5))) 0 0 0,
  p 104 (.pick (t 100) (t 103) (.c (.bool false))),
  p 6 (.mv (t 104))])
 (EC.ret)))))))))))))
 [.t 6]
/- glowworm/glowwormlaw16.QueryOwn -/
noncomputable def e5 : EFunc := EFunc.mk 79 true
 (s (o [p 5 (.box (t 2)),
  p 6 (.mv (.c (.bool false)))])
 (s (o [p 11 (.pcall 8 []),
  p 7 (.mv (t 11))])
 (s (s (o [p 12 (.mv (t 7)),
  p 13 (.un .not (t 12))])
 (EC.cond (t 13)
 (s (o [p 6 (.mv (.c (.bool false)))])
 (EC.ret))
 (EC.skip)))
 (s (o [p 14 (.mv (t 0)),
  p 15 (.call 10 [(t 14), (.c (.str [97])), (ii 6)]),
  p 16 (.mv (t 1)),
  p 17 (.call 10 [(t 16), (.c (.str [98])), (ii 6)]),
  p 8 (.mv (t 15)),
  p 9 (.mv (t 17))])
 (s (s (o [p 18 (.mv (t 8)),
  p 19 (.neq0 false 0 (t 18) (.c .nilp)),
  p 20 (.mv (t 19)),
  w (some 21) (some (20, false)) (.mv (t 9)) 0 0 0,
  w (some 22) (some (20, false)) (.neq0 false 0 (t 21) (.c .nilp)) 0 0 0,
  p 23 (.pick (t 20) (.c (.bool true)) (t 22))])
 (EC.cond (t 23)
 (s (o [p 24 (.mv (t 0)),
  p 25 (.pcall 18 [(t 24)]),
  p 26 (.un .not (t 25)),
  p 27 (.mv (t 26)),
  w (some 28) (some (27, false)) (.mv (t 1)) 0 0 0,
  w (some 29) (some (27, false)) (.pcall 18 [(t 28)]) 0 0 0,
  w (some 30) (some (27, false)) (.un .not (t 29)) 0 0 0,
  p 31 (.pick (t 27) (.c (.bool true)) (t 30)),
  p 6 (.mv (t 31))])
 (EC.ret))
 (EC.skip)))
 (s (o [p 32 (.mv (t 8)),
  p 33 (.call 11 [(t 32)])])
 (s (o [p 34 (.mv (t 9)),
  p 35 (.call 11 [(t 34)])])
 (s (o [p 36 (.ldn 6 (t 5)),
  p 37 (.pcall 9 [(t 36)]),
  q (.st 6 (t 5) (t 37))])
 (s (o [p 38 (.mv (t 0)),
  p 39 (.fa 1 (t 5)),
  q (.st 1 (t 39) (t 38))])
 (s (o [p 40 (.mv (t 8)),
  p 41 (.ldn 6 (t 5)),
  p 42 (.call 12 [(t 40), (t 41)]),
  p 10 (.mv (t 42))])
 (s (o [p 43 (.mv (t 10)),
  p 44 (.ldn 6 (t 5)),
  p 45 (.pcall 13 [(t 44)]),
  p 46 (.mv (t 45)),
  w (some 47) (some (46, true)) (.fa 0 (t 5)) 0 0 0,
  w (some 48) (some (46, true)) (.ld1 (t 47)) 0 0 0,
  w (some 49) (some (46, true)) (.mv (t 0)) 0 0 0,
  w (some 50) (some (46, true)) (.ibin .neq (t 48) (t 49)) 0 0 0,
  p 51 (.pick (t 46) (t 50) (.c (.bool false))),
  p 52 (.beq false (t 43) (t 51)),
  p 53 (.mv (t 52)),
  w (some 54) (some (53, true)) (.mv (t 8)) 0 0 0,
  w (some 55) (some (53, true)) (.call 14 [(t 54)]) 0 0 0,
  w (some 56) (some (53, true)) (.call 15 [(t 55)]) 0 0 0,
  w (some 57) (some (53, true)) (.mv (t 10)) 0 0 0,
  w (some 58) (some (53, true)) (.pcall 16 [(t 57)]) 0 0 0,
  w (some 59) (some (53, true)) (.ibin .eql (t 56) (t 58)) 0 0 0,
  p 60 (.pick (t 53) (t 59) (.c (.bool false))),
  p 61 (.mv (t 60)),
  w (some 62) (some (61, true)) (.mv (t 9)) 0 0 0,
  w (some 63) (some (61, true)) (.call 14 [(t 62)]) 0 0 0,
  w (some 64) (some (61, true)) (.call 15 [(t 63)]) 0 0 0,
  w (some 65) (some (61, true)) (.ibin .eql (t 64) (ii 0)) 0 0 0,
  p 66 (.pick (t 61) (t 65) (.c (.bool false))),
  p 67 (.mv (t 66)),
  w (some 68) (some (67, true)) (.mv (t 9)) 0 0 0,
  w (some 69) (some (67, true)) (.ldn 6 (t 5)) 0 0 0,
  w (some 70) (some (67, true)) (.call 12 [(t 68), (t 69)]) 0 0 0,
  w (some 71) (some (67, true)) (.mv (t 0)) 0 0 0,
  w (some 72) (some (67, true)) (.mv (t 1)) 0 0 0,
  w (some 73) (some (67, true)) (.ibin .eql (t 71) (t 72)) 0 0 0,
  w (some 74) (some (67, true)) (.mv (t 73)) 0 0 0,
  w (some 75) (some (74, true)) (.mv (t 10)) 0 0 0,
  w (some 76) (some (67, true)) (.pick (t 74) (t 75) (.c (.bool false))) 0 0 0,
  w (some 77) (some (67, true)) (.beq false (t 70) (t 76)) 0 0 0,
  p 78 (.pick (t 67) (t 77) (.c (.bool false))),
  p 6 (.mv (t 78))])
 (EC.ret))))))))))))
 [.t 6]
/- glowworm/glowwormlaw16.QueryAll -/
noncomputable def e6 : EFunc := EFunc.mk 138 false
 (s (o [p 10 (.mv (.c (.bool false)))])
 (s (o [p 20 (.pcall 8 []),
  p 11 (.mv (t 20))])
 (s (s (o [p 21 (.mv (t 11)),
  p 22 (.un .not (t 21))])
 (EC.cond (t 22)
 (s (o [p 10 (.mv (.c (.bool false)))])
 (EC.ret))
 (EC.skip)))
 (s (o [p 23 (.mv (t 1)),
  p 24 (.pcall 22 [(t 23), (ii 25)]),
  p 1 (.mv (t 24))])
 (s (o [p 25 (.mv (t 0)),
  p 26 (.mv (t 1)),
  p 27 (.mv (t 2)),
  p 28 (.call 10 [(t 25), (t 26), (t 27)]),
  p 29 (.mv (t 0)),
  p 30 (.mv (t 1)),
  p 31 (.mv (t 2)),
  p 32 (.call 23 [(t 29), (t 30), (t 31)]),
  p 12 (.mv (t 28)),
  p 13 (.mv (t 32))])
 (s (s (o [p 33 (.mv (t 12)),
  p 34 (.neq0 false 0 (t 33) (.c .nilp)),
  p 35 (.mv (t 34)),
  w (some 36) (some (35, false)) (.mv (t 13)) 0 0 0,
  w (some 37) (some (35, false)) (.neq0 false 0 (t 36) (.c .nilp)) 0 0 0,
  p 38 (.pick (t 35) (.c (.bool true)) (t 37))])
 (EC.cond (t 38)
 (s (o [p 39 (.mv (t 12)),
  p 40 (.neq0 false 0 (t 39) (.c .nilp)),
  p 41 (.mv (t 40)),
  w (some 42) (some (41, true)) (.mv (t 13)) 0 0 0,
  w (some 43) (some (41, true)) (.neq0 false 0 (t 42) (.c .nilp)) 0 0 0,
  p 44 (.pick (t 41) (t 43) (.c (.bool false))),
  p 10 (.mv (t 44))])
 (EC.ret))
 (EC.skip)))
 (s (s (o [p 14 (.mv (ii 0))])
 (EC.block 0 (EC.loop (s (s (o [p 45 (.mv (t 14)),
  p 46 (.ibin .lss (t 45) (ii 90))])
 (EC.cond (t 46)
 (EC.skip)
 (EC.exit 0)))
 (s (EC.block 1 (s (s (o [p 49 (.mv (t 14)),
  p 50 (.mv (t 4)),
  p 51 (.len (t 50)),
  p 52 (.ibin .lss (t 49) (t 51)),
  p 53 (.mv (t 52)),
  w (some 54) (some (53, true)) (.mv (t 3)) 0 0 0,
  w (some 55) (some (53, true)) (.len (t 54)) 0 0 0,
  w (some 56) (some (53, true)) (.ibin .gtr (t 55) (ii 0)) 0 0 0,
  p 57 (.pick (t 53) (t 56) (.c (.bool false))),
  p 58 (.mv (t 57)),
  w (some 59) (some (58, true)) (.mv (t 4)) 0 0 0,
  w (some 60) (some (58, true)) (.mv (t 14)) 0 0 0,
  w (some 61) (some (58, true)) (.ia 1 (t 59) (t 60)) 0 0 0,
  w (some 62) (some (58, true)) (.ld1 (t 61)) 0 0 0,
  w (some 63) (some (58, true)) (.ibin .and (t 62) (ii 1)) 0 0 0,
  w (some 64) (some (58, true)) (.ibin .eql (t 63) (ii 1)) 0 0 0,
  p 65 (.pick (t 58) (t 64) (.c (.bool false)))])
 (EC.cond (t 65)
 (s (o [p 66 (.mv (t 3)),
  p 67 (.mv (t 14)),
  p 68 (.mv (t 3)),
  p 69 (.len (t 68)),
  p 70 (.ibin .rem (t 67) (t 69)),
  p 71 (.ia 6 (t 66) (t 70)),
  p 72 (.ldn 6 (t 71)),
  p 73 (.pcall 9 [(t 72)]),
  p 15 (.new [(.int .u32 0), (.int .u32 0), (.int .i64 0), (.int .i64 0), (.bool false), (.str [])]),
  q (.st 6 (t 15) (t 73))])
 (s (s (o [p 74 (.mv (t 4)),
  p 75 (.mv (t 14)),
  p 76 (.ia 1 (t 74) (t 75)),
  p 77 (.ld1 (t 76)),
  p 78 (.ibin .and (t 77) (ii 2)),
  p 79 (.ibin .eql (t 78) (ii 2))])
 (EC.cond (t 79)
 (o [p 80 (.mv (t 0)),
  p 81 (.fa 1 (t 15)),
  q (.st 1 (t 81) (t 80))])
 (EC.skip)))
 (s (EC.draw 7 [w (some 82) none (.mv (t 12)) 0 0 0,
  w (some 83) none (.ldn 6 (t 15)) 0 0 1,
  w (some 84) none (.call 12 [(t 82), (t 83)]) 0 1 2,
  w (some 85) none (.mv (t 13)) 0 1 3,
  w (some 86) none (.ldn 6 (t 15)) 0 1 4,
  w (some 87) none (.call 24 [(t 85), (t 86)]) 1 2 5,
  w (some 88) none (.beq true (t 84) (t 87)) 2 2 6])
 (EC.cond (t 88)
 (s (o [p 10 (.mv (.c (.bool false)))])
 (EC.ret))
 (EC.skip)))))
 (EC.skip)))
 (s (s (EC.draw 29 [w (some 89) none (.mv (t 12)) 0 0 0,
  w (some 90) none (.call 25 [(t 89)]) 0 1 1,
  w (some 91) none (.mv (t 13)) 0 1 2,
  w (some 92) none (.call 26 [(t 91)]) 1 2 3,
  w (some 93) none (.beq true (t 90) (t 92)) 2 2 4,
  w (some 94) none (.mv (t 93)) 2 2 5,
  w (some 95) (some (94, false)) (.mv (t 12)) 2 2 6,
  w (some 96) (some (94, false)) (.call 14 [(t 95)]) 2 3 7,
  w (some 97) (some (94, false)) (.call 28 [(t 96)]) 3 4 8,
  w (some 98) (some (94, false)) (.mv (t 13)) 2 4 9,
  w (some 99) (some (94, false)) (.nilchk (t 98)) 2 4 10,
  w (some 100) (some (94, false)) (.fa 4 (t 99)) 2 4 11,
  w (some 101) (some (94, false)) (.ld1 (t 100)) 2 4 12,
  w (some 102) (some (94, false)) (.call 29 [(t 101)]) 4 5 13,
  w (some 103) (some (94, false)) (.call 27 [(t 97), (t 102)]) 5 6 14,
  w (some 104) (some (94, false)) (.un .not (t 103)) 6 6 15,
  w (some 105) none (.pick (t 94) (.c (.bool true)) (t 104)) 6 6 16,
  w (some 106) none (.mv (t 105)) 6 6 17,
  w (some 107) (some (106, false)) (.mv (t 12)) 6 6 18,
  w (some 108) (some (106, false)) (.call 14 [(t 107)]) 6 7 19,
  w (some 109) (some (106, false)) (.call 31 [(t 108)]) 7 8 20,
  w (some 110) (some (106, false)) (.mv (t 13)) 6 8 21,
  w (some 111) (some (106, false)) (.nilchk (t 110)) 6 8 22,
  w (some 112) (some (106, false)) (.fa 4 (t 111)) 6 8 23,
  w (some 113) (some (106, false)) (.ld1 (t 112)) 6 8 24,
  w (some 114) (some (106, false)) (.call 32 [(t 113)]) 8 9 25,
  w (some 115) (some (106, false)) (.call 30 [(t 109), (t 114)]) 9 10 26,
  w (some 116) (some (106, false)) (.un .not (t 115)) 10 10 27,
  w (some 117) none (.pick (t 106) (.c (.bool true)) (t 116)) 10 10 28])
 (EC.cond (t 117)
 (s (o [p 10 (.mv (.c (.bool false)))])
 (EC.ret))
 (EC.skip)))
 (s (o [p 119 (.mv (t 12)),
  p 120 (.call 11 [(t 119)]),
  p 118 (.mv (t 120)),
  p 121 (.ext (t 118) 0),
  p 122 (.ext (t 118) 1),
  p 16 (.new [(.int .u32 0), (.int .u32 0), (.int .i64 0), (.int .i64 0), (.bool false), (.str [])]),
  q (.st 6 (t 16) (t 121)),
  p 17 (.mv (t 122))])
 (s (o [p 124 (.mv (t 13)),
  p 125 (.call 33 [(t 124)]),
  p 123 (.mv (t 125)),
  p 126 (.ext (t 123) 0),
  p 127 (.ext (t 123) 1),
  p 18 (.new [(.int .u32 0), (.int .u32 0), (.int .i64 0), (.int .i64 0), (.bool false), (.str [])]),
  q (.st 6 (t 18) (t 126)),
  p 19 (.mv (t 127))])
 (s (o [p 128 (.ldn 6 (t 16)),
  p 129 (.ldn 6 (t 18)),
  p 130 (.aeq true [1, 1, 1, 1, 0, 2] (t 128) (t 129)),
  p 131 (.mv (t 130)),
  w (some 132) (some (131, false)) (.mv (t 17)) 0 0 0,
  w (some 133) (some (131, false)) (.mv (t 19)) 0 0 0,
  w (some 134) (some (131, false)) (.beq true (t 132) (t 133)) 0 0 0,
  p 135 (.pick (t 131) (.c (.bool true)) (t 134))])
 (EC.cond (t 135)
 (s (o [p 10 (.mv (.c (.bool false)))])
 (EC.ret))
 (EC.skip))))))))
 (o [p 47 (.mv (t 14)),
  p 48 (.ibin .add (t 47) (ii 1)),
  p 14 (.mv (t 48))]))))))
 (s (o [p 136 (.mv (t 12)),
  p 137 (.call 25 [(t 136)]),
  p 10 (.mv (t 137))])
 (EC.ret)))))))))
 [.t 10]
/- glowworm/glowwormlaw16.LogOrder -/
noncomputable def e7 : EFunc := EFunc.mk 100 false
 (s (o [p 2 (.mv (.c (.bool false)))])
 (s (o [p 13 (.pcall 8 []),
  p 3 (.mv (t 13))])
 (s (s (o [p 14 (.mv (t 3)),
  p 15 (.un .not (t 14))])
 (EC.cond (t 15)
 (s (o [p 2 (.mv (.c (.bool false)))])
 (EC.ret))
 (EC.skip)))
 (s (o [p 16 (.call 34 [(.c (.int .u32 0))]),
  p 4 (.mv (t 16))])
 (s (o [p 5 (.mv (.c .nils))])
 (s (s (o [p 6 (.mv (ii 0))])
 (EC.block 0 (EC.loop (s (s (o [p 17 (.mv (t 6)),
  p 18 (.mv (t 0)),
  p 19 (.len (t 18)),
  p 20 (.ibin .lss (t 17) (t 19)),
  p 21 (.mv (t 20)),
  w (some 22) (some (21, true)) (.mv (t 6)) 0 0 0,
  w (some 23) (some (21, true)) (.ibin .lss (t 22) (ii 12)) 0 0 0,
  p 24 (.pick (t 21) (t 23) (.c (.bool false)))])
 (EC.cond (t 24)
 (EC.skip)
 (EC.exit 0)))
 (s (EC.block 1 (s (o [p 27 (.mv (t 0)),
  p 28 (.mv (t 6)),
  p 29 (.ia 1 (t 27) (t 28)),
  p 30 (.ld1 (t 29)),
  p 31 (.build [(.int .u32 0), (.int .u32 0), (.int .i64 0), (.int .i64 0), (.bool false), (.str [])] [(0, 1, (t 30)), (3, 1, (ii 6)), (2, 1, (ii 2)), (5, 1, (.c (.str [100])))]),
  p 7 (.new [(.int .u32 0), (.int .u32 0), (.int .i64 0), (.int .i64 0), (.bool false), (.str [])]),
  q (.st 6 (t 7) (t 31))])
 (s (o [p 8 (.mv (.c (.bool false)))])
 (s (s (o [p 32 (.mv (t 5)),
  p 33 (.len (t 32)),
  p 34 (.mv (ii 0))])
 (EC.block 2 (EC.loop (s (o [p 35 (.ibin .lss (t 34) (t 33))])
 (s (EC.cond (t 35)
 (EC.skip)
 (EC.exit 2))
 (s (EC.block 3 (s (o [p 36 (.ia 1 (t 32) (t 34)),
  p 37 (.ld1 (t 36)),
  p 10 (.mv (t 37))])
 (o [p 38 (.mv (t 8)),
  p 39 (.mv (t 38)),
  w (some 40) (some (39, false)) (.mv (t 10)) 0 0 0,
  w (some 41) (some (39, false)) (.mv (t 0)) 0 0 0,
  w (some 42) (some (39, false)) (.mv (t 6)) 0 0 0,
  w (some 43) (some (39, false)) (.ia 1 (t 41) (t 42)) 0 0 0,
  w (some 44) (some (39, false)) (.ld1 (t 43)) 0 0 0,
  w (some 45) (some (39, false)) (.ibin .eql (t 40) (t 44)) 0 0 0,
  p 46 (.pick (t 39) (.c (.bool true)) (t 45)),
  p 8 (.mv (t 46))])))
 (o [p 47 (.ibin .add (t 34) (ii 1)),
  p 34 (.mv (t 47))])))))))
 (s (s (EC.draw 9 [w (some 48) none (.mv (t 4)) 0 0 0,
  w (some 49) none (.ldn 6 (t 7)) 0 0 1,
  w (some 50) none (.call 35 [(t 48), (t 49)]) 0 1 2,
  w (some 51) none (.mv (t 0)) 0 1 3,
  w (some 52) none (.mv (t 6)) 0 1 4,
  w (some 53) none (.ia 1 (t 51) (t 52)) 0 1 5,
  w (some 54) none (.ld1 (t 53)) 0 1 6,
  w (some 55) none (.pcall 18 [(t 54)]) 1 1 7,
  w (some 56) none (.beq true (t 50) (t 55)) 1 1 8])
 (EC.cond (t 56)
 (s (o [p 2 (.mv (.c (.bool false)))])
 (EC.ret))
 (EC.skip)))
 (s (o [p 57 (.mv (t 0)),
  p 58 (.mv (t 6)),
  p 59 (.ia 1 (t 57) (t 58)),
  p 60 (.ld1 (t 59)),
  p 61 (.pcall 18 [(t 60)]),
  p 62 (.mv (t 61)),
  w (some 63) (some (62, true)) (.mv (t 8)) 0 0 0,
  w (some 64) (some (62, true)) (.un .not (t 63)) 0 0 0,
  p 65 (.pick (t 62) (t 64) (.c (.bool false)))])
 (EC.cond (t 65)
 (o [p 66 (.mv (t 5)),
  p 67 (.mv (t 0)),
  p 68 (.mv (t 6)),
  p 69 (.ia 1 (t 67) (t 68)),
  p 70 (.ld1 (t 69)),
  p 71 (.bslice 1 1 [(.int .u32 0)] [(0, 1, (t 70))]),
  p 72 (.app 1 4 (t 66) (t 71)),
  p 5 (.mv (t 72))])
 (EC.skip))))))))
 (o [p 25 (.mv (t 6)),
  p 26 (.ibin .add (t 25) (ii 1)),
  p 6 (.mv (t 26))]))))))
 (s (o [p 73 (.mv (t 4)),
  p 74 (.call 28 [(t 73)]),
  p 11 (.mv (t 74))])
 (s (s (o [p 75 (.mv (t 11)),
  p 76 (.len (t 75)),
  p 77 (.mv (t 5)),
  p 78 (.len (t 77)),
  p 79 (.ibin .neq (t 76) (t 78))])
 (EC.cond (t 79)
 (s (o [p 2 (.mv (.c (.bool false)))])
 (EC.ret))
 (EC.skip)))
 (s (s (o [p 80 (.mv (t 11)),
  p 81 (.len (t 80)),
  p 82 (.mv (ii 0))])
 (EC.block 4 (EC.loop (s (o [p 83 (.ibin .lss (t 82) (t 81))])
 (s (EC.cond (t 83)
 (EC.skip)
 (EC.exit 4))
 (s (EC.block 5 (s (o [p 84 (.mv (t 82)),
  p 12 (.mv (t 84))])
 (s (EC.draw 10 [w (some 85) none (.mv (t 11)) 0 0 0,
  w (some 86) none (.mv (t 12)) 0 0 1,
  w (some 87) none (.ia 2 (t 85) (t 86)) 0 0 2,
  w (some 88) none (.fa 0 (t 87)) 0 0 3,
  w (some 89) none (.ld1 (t 88)) 0 0 4,
  w (some 90) none (.mv (t 5)) 0 0 5,
  w (some 91) none (.mv (t 12)) 0 0 6,
  w (some 92) none (.ia 1 (t 90) (t 91)) 0 0 7,
  w (some 93) none (.ld1 (t 92)) 0 0 8,
  w (some 94) none (.ibin .neq (t 89) (t 93)) 0 0 9])
 (EC.cond (t 94)
 (s (o [p 2 (.mv (.c (.bool false)))])
 (EC.ret))
 (EC.skip)))))
 (o [p 95 (.ibin .add (t 82) (ii 1)),
  p 82 (.mv (t 95))])))))))
 (s (o [p 96 (.mv (t 4)),
  p 97 (.call 31 [(t 96)]),
  p 98 (.len (t 97)),
  p 99 (.ibin .eql (t 98) (ii 0)),
  p 2 (.mv (t 99))])
 (EC.ret)))))))))))
 [.t 2]
/- glowworm/glowwormlaw16.begun -/
noncomputable def e8 : EFunc := EFunc.mk 166 true
 (s (o [p 0 (.mv (.c (.bool false)))])
 (s (o [p 16 (.call 34 [(.c (.int .u32 1))]),
  p 17 (.call 10 [(.c (.int .u32 1)), (.c (.str [109, 101])), (ii 1)]),
  p 18 (.call 17 [(.c (.int .u32 2)), (.c (.str [121, 111, 117]))]),
  p 19 (.call 36 []),
  p 1 (.mv (t 16)),
  p 2 (.mv (t 17)),
  p 3 (.mv (t 18)),
  p 4 (.mv (t 19))])
 (s (s (o [p 20 (.mv (t 1)),
  p 21 (.neq0 false 0 (t 20) (.c .nilp)),
  p 22 (.mv (t 21)),
  w (some 23) (some (22, false)) (.mv (t 2)) 0 0 0,
  w (some 24) (some (22, false)) (.neq0 false 0 (t 23) (.c .nilp)) 0 0 0,
  p 25 (.pick (t 22) (.c (.bool true)) (t 24)),
  p 26 (.mv (t 25)),
  w (some 27) (some (26, false)) (.mv (t 3)) 0 0 0,
  w (some 28) (some (26, false)) (.neq0 false 0 (t 27) (.c .nilp)) 0 0 0,
  p 29 (.pick (t 26) (.c (.bool true)) (t 28)),
  p 30 (.mv (t 29)),
  w (some 31) (some (30, false)) (.mv (t 4)) 0 0 0,
  w (some 32) (some (30, false)) (.neq0 false 0 (t 31) (.c .nilp)) 0 0 0,
  p 33 (.pick (t 30) (.c (.bool true)) (t 32)),
  p 34 (.mv (t 33)),
  w (some 35) (some (34, false)) (.call 10 [(.c (.int .u32 0)), (.c (.str [])), (ii 1)]) 0 0 0,
  w (some 36) (some (34, false)) (.neq0 true 0 (t 35) (.c .nilp)) 0 0 0,
  p 37 (.pick (t 34) (.c (.bool true)) (t 36)),
  p 38 (.mv (t 37)),
  w (some 39) (some (38, false)) (.call 17 [(.c (.int .u32 0)), (.c (.str []))]) 0 0 0,
  w (some 40) (some (38, false)) (.neq0 true 0 (t 39) (.c .nilp)) 0 0 0,
  p 41 (.pick (t 38) (.c (.bool true)) (t 40))])
 (EC.cond (t 41)
 (s (o [p 0 (.mv (.c (.bool false)))])
 (EC.ret))
 (EC.skip)))
 (s (o [p 42 (.mv (t 1)),
  p 43 (.build [(.int .u32 0), (.int .u32 0), (.int .i64 0), (.int .i64 0), (.bool false), (.str [])] [(0, 1, (.c (.int .u32 2))), (1, 1, (.c (.int .u32 1))), (3, 1, (ii 6)), (5, 1, (.c (.str [110])))]),
  p 44 (.call 35 [(t 42), (t 43)]),
  p 5 (.mv (t 44))])
 (s (o [p 45 (.mv (t 1)),
  p 46 (.build [(.int .u32 0), (.int .u32 0), (.int .i64 0), (.int .i64 0), (.bool false), (.str [])] [(0, 1, (.c (.int .u32 2))), (1, 1, (.c (.int .u32 1))), (3, 1, (ii 6)), (2, 1, (ii 1)), (5, 1, (.c (.str [110])))]),
  p 47 (.call 35 [(t 45), (t 46)]),
  p 6 (.mv (t 47))])
 (s (o [p 49 (.mv (t 2)),
  p 50 (.call 11 [(t 49)]),
  p 48 (.mv (t 50)),
  p 51 (.ext (t 48) 0),
  p 52 (.ext (t 48) 1),
  p 7 (.new [(.int .u32 0), (.int .u32 0), (.int .i64 0), (.int .i64 0), (.bool false), (.str [])]),
  q (.st 6 (t 7) (t 51)),
  p 8 (.mv (t 52))])
 (s (o [p 54 (.mv (t 3)),
  p 55 (.ldn 6 (t 7)),
  p 56 (.bslice 1 1 [(.int .u32 0)] [(0, 1, (.c (.int .u32 4)))]),
  p 57 (.call 19 [(t 54), (t 55), (t 56)]),
  p 53 (.mv (t 57)),
  p 58 (.ext (t 53) 0),
  p 59 (.ext (t 53) 1),
  p 60 (.ext (t 53) 2),
  p 9 (.new [(.int .u32 0), (.int .u32 0), (.int .i64 0), (.int .i64 0), (.bool false), (.str [])]),
  q (.st 6 (t 9) (t 58)),
  p 10 (.mv (t 59)),
  p 11 (.mv (t 60))])
 (s (o [p 61 (.mv (t 2)),
  p 62 (.ldn 6 (t 9)),
  p 63 (.call 12 [(t 61), (t 62)]),
  p 12 (.mv (t 63))])
 (s (o [p 64 (.mv (t 4)),
  p 65 (.build [(.int .i64 0), (.int .i64 0), (.int .u32 0), (.str [])] [(0, 1, (ii 3)), (3, 1, (.c (.str [122])))]),
  p 66 (.call 37 [(t 64), (t 65)]),
  p 13 (.mv (t 66))])
 (s (o [p 68 (.mv (t 4)),
  p 69 (.call 38 [(t 68)]),
  p 67 (.mv (t 69)),
  p 70 (.ext (t 67) 0),
  p 71 (.ext (t 67) 1),
  p 14 (.new [(.int .i64 0), (.int .i64 0), (.int .u32 0), (.str [])]),
  q (.st 4 (t 14) (t 70)),
  p 15 (.mv (t 71))])
 (s (s (o [p 72 (.mv (t 1)),
  p 73 (.call 31 [(t 72)]),
  p 74 (.len (t 73)),
  p 75 (.ibin .neq (t 74) (ii 1)),
  p 76 (.mv (t 75)),
  w (some 77) (some (76, false)) (.mv (t 2)) 0 0 0,
  w (some 78) (some (76, false)) (.call 14 [(t 77)]) 0 0 0,
  w (some 79) (some (76, false)) (.neq0 false 0 (t 78) (.c .nilp)) 0 0 0,
  p 80 (.pick (t 76) (.c (.bool true)) (t 79))])
 (EC.cond (t 80)
 (s (o [p 0 (.mv (.c (.bool false)))])
 (EC.ret))
 (EC.skip)))
 (s (o [p 81 (.pcall 39 []),
  p 82 (.mv (t 81)),
  w (some 83) (some (82, true)) (.mv (t 5)) 0 0 0,
  p 84 (.pick (t 82) (t 83) (.c (.bool false))),
  p 85 (.mv (t 84)),
  w (some 86) (some (85, true)) (.mv (t 6)) 0 0 0,
  w (some 87) (some (85, true)) (.un .not (t 86)) 0 0 0,
  p 88 (.pick (t 85) (t 87) (.c (.bool false))),
  p 89 (.mv (t 88)),
  w (some 90) (some (89, true)) (.mv (t 1)) 0 0 0,
  w (some 91) (some (89, true)) (.call 31 [(t 90)]) 0 0 0,
  w (some 92) (some (89, true)) (.ia 1 (t 91) (ii 0)) 0 0 0,
  w (some 93) (some (89, true)) (.ld1 (t 92)) 0 0 0,
  w (some 94) (some (89, true)) (.ibin .eql (t 93) (.c (.int .u32 2))) 0 0 0,
  p 95 (.pick (t 89) (t 94) (.c (.bool false))),
  p 96 (.mv (t 95)),
  w (some 97) (some (96, true)) (.mv (t 8)) 0 0 0,
  p 98 (.pick (t 96) (t 97) (.c (.bool false))),
  p 99 (.mv (t 98)),
  w (some 100) (some (99, true)) (.fa 2 (t 7)) 0 0 0,
  w (some 101) (some (99, true)) (.ld1 (t 100)) 0 0 0,
  w (some 102) (some (99, true)) (.ibin .eql (t 101) (ii 0)) 0 0 0,
  p 103 (.pick (t 99) (t 102) (.c (.bool false))),
  p 104 (.mv (t 103)),
  w (some 105) (some (104, true)) (.mv (t 10)) 0 0 0,
  w (some 106) (some (104, true)) (.ibin .eql (t 105) (ii 1)) 0 0 0,
  p 107 (.pick (t 104) (t 106) (.c (.bool false))),
  p 108 (.mv (t 107)),
  w (some 109) (some (108, true)) (.mv (t 11)) 0 0 0,
  p 110 (.pick (t 108) (t 109) (.c (.bool false))),
  p 111 (.mv (t 110)),
  w (some 112) (some (111, true)) (.fa 0 (t 9)) 0 0 0,
  w (some 113) (some (111, true)) (.ld1 (t 112)) 0 0 0,
  w (some 114) (some (111, true)) (.ibin .eql (t 113) (.c (.int .u32 2))) 0 0 0,
  p 115 (.pick (t 111) (t 114) (.c (.bool false))),
  p 116 (.mv (t 115)),
  w (some 117) (some (116, true)) (.fa 1 (t 9)) 0 0 0,
  w (some 118) (some (116, true)) (.ld1 (t 117)) 0 0 0,
  w (some 119) (some (116, true)) (.ibin .eql (t 118) (.c (.int .u32 1))) 0 0 0,
  p 120 (.pick (t 116) (t 119) (.c (.bool false))),
  p 121 (.mv (t 120)),
  w (some 122) (some (121, true)) (.mv (t 12)) 0 0 0,
  p 123 (.pick (t 121) (t 122) (.c (.bool false))),
  p 124 (.mv (t 123)),
  w (some 125) (some (124, true)) (.mv (t 2)) 0 0 0,
  w (some 126) (some (124, true)) (.call 14 [(t 125)]) 0 0 0,
  w (some 127) (some (124, true)) (.call 15 [(t 126)]) 0 0 0,
  w (some 128) (some (124, true)) (.ibin .eql (t 127) (ii 1)) 0 0 0,
  p 129 (.pick (t 124) (t 128) (.c (.bool false))),
  p 130 (.mv (t 129)),
  w (some 131) (some (130, true)) (.mv (t 2)) 0 0 0,
  w (some 132) (some (130, true)) (.call 25 [(t 131)]) 0 0 0,
  w (some 133) (some (130, true)) (.un .not (t 132)) 0 0 0,
  p 134 (.pick (t 130) (t 133) (.c (.bool false))),
  p 135 (.mv (t 134)),
  w (some 136) (some (135, true)) (.mv (t 13)) 0 0 0,
  w (some 137) (some (135, true)) (.ibin .eql (t 136) (ii 0)) 0 0 0,
  p 138 (.pick (t 135) (t 137) (.c (.bool false))),
  p 139 (.mv (t 138)),
  w (some 140) (some (139, true)) (.mv (t 15)) 0 0 0,
  p 141 (.pick (t 139) (t 140) (.c (.bool false))),
  p 142 (.mv (t 141)),
  w (some 143) (some (142, true)) (.fa 3 (t 14)) 0 0 0,
  w (some 144) (some (142, true)) (.ld1 (t 143)) 0 0 0,
  w (some 145) (some (142, true)) (.sbin .eql (t 144) (.c (.str [122]))) 0 0 0,
  p 146 (.pick (t 142) (t 145) (.c (.bool false))),
  p 147 (.mv (t 146)),
  w (some 148) (some (147, true)) (.mv (t 4)) 0 0 0,
  w (some 149) (some (147, true)) (.call 40 [(t 148)]) 0 0 0,
  w (some 150) (some (147, true)) (.ibin .eql (t 149) (ii 0)) 0 0 0,
  p 151 (.pick (t 147) (t 150) (.c (.bool false))),
  p 152 (.mv (t 151)),
  w (some 153) (some (152, true)) (.ldn 4 (t 14)) 0 0 0,
  w (some 154) (some (152, true)) (.pcall 41 [(t 153)]) 0 0 0,
  p 155 (.pick (t 152) (t 154) (.c (.bool false))),
  p 156 (.mv (t 155)),
  w (some 157) (some (156, true)) (.mv (t 3)) 0 0 0,
  w (some 158) (some (156, true)) (.call 21 [(t 157)]) 0 0 0,
  w (some 159) (some (156, true)) (.ibin .eql (t 158) (.c (.int .u32 2))) 0 0 0,
  p 160 (.pick (t 156) (t 159) (.c (.bool false))),
  p 161 (.mv (t 160)),
  w (some 162) (some (161, true)) (.mv (t 3)) 0 0 0,
  w (some 163) (some (161, true)) (.call 42 [(t 162)]) 0 0 0,
  w (some 164) (some (161, true)) (.sbin .eql (t 163) (.c (.str [121, 111, 117]))) 0 0 0,
  p 165 (.pick (t 161) (t 164) (.c (.bool false))),
  p 0 (.mv (t 165))])
 (EC.ret)))))))))))))
 [.t 0]
/- glowworm/glowwormlaw16.xid1 -/
noncomputable def e9 : EFunc := EFunc.mk 8 true
 (s (o [p 1 (.box (t 0)),
  p 2 (.new [(.int .u32 0), (.int .u32 0), (.int .i64 0), (.int .i64 0), (.bool false), (.str [])])])
 (s (o [p 3 (.fa 5 (t 1)),
  p 4 (.ld1 (t 3)),
  p 5 (.pcall 22 [(t 4), (ii 25)]),
  p 6 (.fa 5 (t 1)),
  q (.st 1 (t 6) (t 5))])
 (s (o [p 7 (.ldn 6 (t 1)),
  q (.st 6 (t 2) (t 7))])
 (EC.ret))))
 [.cn 2 6]
/- glowworm/query.New -/
noncomputable def e10 : EFunc := EFunc.mk 20 false
 (s (o [p 6 (.mv (.c .nilp))])
 (s (o [p 8 (.mv (t 0)),
  p 9 (.mv (t 2)),
  p 10 (.mv (t 1)),
  p 11 (.build [(.int .u32 0), (.int .u32 0), (.int .i64 0), (.int .i64 0), (.bool false), (.str [])] [(0, 1, (t 8)), (3, 1, (t 9)), (5, 1, (t 10))]),
  p 7 (.new [(.int .u32 0), (.int .u32 0), (.int .i64 0), (.int .i64 0), (.bool false), (.str [])]),
  q (.st 6 (t 7) (t 11))])
 (s (s (o [p 12 (.ldn 6 (t 7)),
  p 13 (.pcall 43 [(t 12)]),
  p 14 (.un .not (t 13))])
 (EC.cond (t 14)
 (s (o [p 6 (.mv (.c .nilp))])
 (EC.ret))
 (EC.skip)))
 (s (EC.draw 6 [w (some 15) none (.ldn 6 (t 7)) 0 1 0,
  w (some 16) none (.mv (t 0)) 0 0 1,
  w (some 17) none (.call 34 [(t 16)]) 0 1 2,
  w (some 18) none (.build [(.int .u32 0), (.int .u32 0), (.int .i64 0), (.int .i64 0), (.bool false), (.str []), (.int .i64 0), .nilp] [(0, 6, (t 15)), (7, 1, (t 17))]) 1 1 3,
  w (some 19) none (.box (t 18)) 1 1 4,
  w (some 6) none (.mv (t 19)) 1 1 5])
 (EC.ret)))))
 [.t 6]
/- (*glowworm/query.Query).Tick -/
noncomputable def e11 : EFunc := EFunc.mk 51 false
 (s (o [p 2 (.new [(.int .u32 0), (.int .u32 0), (.int .i64 0), (.int .i64 0), (.bool false), (.str [])]),
  p 3 (.mv (.c (.bool false)))])
 (s (s (o [p 7 (.mv (t 0)),
  p 8 (.call 25 [(t 7)])])
 (EC.cond (t 8)
 (s (o [p 9 (.build [(.int .u32 0), (.int .u32 0), (.int .i64 0), (.int .i64 0), (.bool false), (.str [])] []),
  q (.st 6 (t 2) (t 9)),
  p 3 (.mv (.c (.bool false)))])
 (EC.ret))
 (EC.skip)))
 (s (EC.draw 12 [w (some 10) none (.mv (t 0)) 0 0 0,
  w (some 11) none (.nilchk (t 10)) 0 0 1,
  w (some 12) none (.fa 6 (t 11)) 0 0 2,
  w (some 13) none (.ld1 (t 12)) 0 0 3,
  w (some 14) none (.ibin .quo (t 13) (ii 8)) 0 0 4,
  w (some 15) none (.mv (t 0)) 0 0 5,
  w (some 16) none (.nilchk (t 15)) 0 0 6,
  w (some 17) none (.fa 6 (t 16)) 0 0 7,
  w (some 18) none (.ld1 (t 17)) 0 0 8,
  w (some 19) none (.ibin .rem (t 18) (ii 8)) 0 0 9,
  w (some 4) none (.mv (t 14)) 0 0 10,
  w (some 5) none (.mv (t 19)) 0 0 11])
 (s (o [p 20 (.mv (t 0)),
  p 21 (.nilchk (t 20)),
  p 22 (.fa 6 (t 21)),
  p 23 (.ld1 (t 22)),
  p 24 (.ibin .add (t 23) (ii 1)),
  p 25 (.nilchk (t 20)),
  p 26 (.fa 6 (t 25)),
  q (.st 1 (t 26) (t 24))])
 (s (s (o [p 27 (.mv (t 5)),
  p 28 (.ibin .neq (t 27) (ii 0)),
  p 29 (.mv (t 28)),
  w (some 30) (some (29, false)) (.mv (t 4)) 0 0 0,
  w (some 31) (some (29, false)) (.mv (t 0)) 0 0 0,
  w (some 32) (some (29, false)) (.nilchk (t 31)) 0 0 0,
  w (some 33) (some (29, false)) (.fa 0 (t 32)) 0 0 0,
  w (some 34) (some (29, false)) (.fa 3 (t 33)) 0 0 0,
  w (some 35) (some (29, false)) (.ld1 (t 34)) 0 0 0,
  w (some 36) (some (29, false)) (.ibin .gtr (t 30) (t 35)) 0 0 0,
  p 37 (.pick (t 29) (.c (.bool true)) (t 36))])
 (EC.cond (t 37)
 (s (o [p 38 (.build [(.int .u32 0), (.int .u32 0), (.int .i64 0), (.int .i64 0), (.bool false), (.str [])] []),
  q (.st 6 (t 2) (t 38)),
  p 3 (.mv (.c (.bool false)))])
 (EC.ret))
 (EC.skip)))
 (s (o [p 39 (.mv (t 0)),
  p 40 (.nilchk (t 39)),
  p 41 (.fa 0 (t 40)),
  p 42 (.ldn 6 (t 41)),
  p 6 (.new [(.int .u32 0), (.int .u32 0), (.int .i64 0), (.int .i64 0), (.bool false), (.str [])]),
  q (.st 6 (t 6) (t 42))])
 (s (s (o [p 43 (.mv (t 4)),
  p 44 (.fa 2 (t 6)),
  q (.st 1 (t 44) (t 43))])
 (s (o [p 45 (.mv (t 4)),
  p 46 (.fa 3 (t 6)),
  p 47 (.ld1 (t 46)),
  p 48 (.ibin .eql (t 45) (t 47))])
 (EC.cond (t 48)
 (o [p 49 (.fa 2 (t 6)),
  q (.st 1 (t 49) (ii (-1)))])
 (EC.skip))))
 (s (o [p 50 (.ldn 6 (t 6)),
  q (.st 6 (t 2) (t 50)),
  p 3 (.mv (.c (.bool true)))])
 (EC.ret)))))))))
 [.cn 2 6, .t 3]
/- (*glowworm/query.Query).Hear -/
noncomputable def e12 : EFunc := EFunc.mk 33 false
 (s (o [p 3 (.box (t 1)),
  p 4 (.mv (.c (.bool false)))])
 (s (EC.draw 29 [w (some 5) none (.mv (t 0)) 0 0 0,
  w (some 6) none (.call 25 [(t 5)]) 0 1 1,
  w (some 7) none (.un .not (t 6)) 1 1 2,
  w (some 8) none (.mv (t 7)) 1 1 3,
  w (some 9) (some (8, true)) (.mv (t 0)) 1 1 4,
  w (some 10) (some (8, true)) (.nilchk (t 9)) 1 1 5,
  w (some 11) (some (8, true)) (.fa 6 (t 10)) 1 1 6,
  w (some 12) (some (8, true)) (.ld1 (t 11)) 1 1 7,
  w (some 13) (some (8, true)) (.ibin .gtr (t 12) (ii 0)) 1 1 8,
  w (some 14) none (.pick (t 8) (t 13) (.c (.bool false))) 1 1 9,
  w (some 15) none (.mv (t 14)) 1 1 10,
  w (some 16) (some (15, true)) (.fa 1 (t 3)) 1 1 11,
  w (some 17) (some (15, true)) (.ld1 (t 16)) 1 1 12,
  w (some 18) (some (15, true)) (.mv (t 0)) 1 1 13,
  w (some 19) (some (15, true)) (.nilchk (t 18)) 1 1 14,
  w (some 20) (some (15, true)) (.fa 0 (t 19)) 1 1 15,
  w (some 21) (some (15, true)) (.fa 0 (t 20)) 1 1 16,
  w (some 22) (some (15, true)) (.ld1 (t 21)) 1 1 17,
  w (some 23) (some (15, true)) (.ibin .eql (t 17) (t 22)) 1 1 18,
  w (some 24) none (.pick (t 15) (t 23) (.c (.bool false))) 1 1 19,
  w (some 25) none (.mv (t 24)) 1 1 20,
  w (some 26) (some (25, true)) (.mv (t 0)) 1 1 21,
  w (some 27) (some (25, true)) (.nilchk (t 26)) 1 1 22,
  w (some 28) (some (25, true)) (.fa 7 (t 27)) 1 1 23,
  w (some 29) (some (25, true)) (.ld1 (t 28)) 1 1 24,
  w (some 30) (some (25, true)) (.ldn 6 (t 3)) 1 1 25,
  w (some 31) (some (25, true)) (.call 35 [(t 29), (t 30)]) 1 2 26,
  w (some 32) none (.pick (t 25) (t 31) (.c (.bool false))) 2 2 27,
  w (some 4) none (.mv (t 32)) 2 2 28])
 (EC.ret)))
 [.t 4]
/- glowworm/glowwormref8.MayXid -/
noncomputable def e13 : EFunc := EFunc.mk 38 true
 (s (o [p 1 (.box (t 0)),
  p 2 (.mv (.c (.bool false)))])
 (s (o [p 3 (.fa 0 (t 1)),
  p 4 (.ld1 (t 3)),
  p 5 (.pcall 18 [(t 4)]),
  p 6 (.mv (t 5)),
  w (some 7) (some (6, true)) (.fa 3 (t 1)) 0 0 0,
  w (some 8) (some (6, true)) (.ld1 (t 7)) 0 0 0,
  w (some 9) (some (6, true)) (.ibin .eql (t 8) (ii 1)) 0 0 0,
  w (some 10) (some (6, true)) (.mv (t 9)) 0 0 0,
  w (some 11) (some (10, false)) (.fa 3 (t 1)) 0 0 0,
  w (some 12) (some (10, false)) (.ld1 (t 11)) 0 0 0,
  w (some 13) (some (10, false)) (.ibin .eql (t 12) (ii 6)) 0 0 0,
  w (some 14) (some (6, true)) (.pick (t 10) (.c (.bool true)) (t 13)) 0 0 0,
  w (some 15) (some (6, true)) (.mv (t 14)) 0 0 0,
  w (some 16) (some (15, false)) (.fa 3 (t 1)) 0 0 0,
  w (some 17) (some (15, false)) (.ld1 (t 16)) 0 0 0,
  w (some 18) (some (15, false)) (.ibin .eql (t 17) (ii 8)) 0 0 0,
  w (some 19) (some (6, true)) (.pick (t 15) (.c (.bool true)) (t 18)) 0 0 0,
  p 20 (.pick (t 6) (t 19) (.c (.bool false))),
  p 21 (.mv (t 20)),
  w (some 22) (some (21, true)) (.fa 2 (t 1)) 0 0 0,
  w (some 23) (some (21, true)) (.ld1 (t 22)) 0 0 0,
  w (some 24) (some (21, true)) (.ibin .geq (t 23) (ii (-1))) 0 0 0,
  p 25 (.pick (t 21) (t 24) (.c (.bool false))),
  p 26 (.mv (t 25)),
  w (some 27) (some (26, true)) (.fa 2 (t 1)) 0 0 0,
  w (some 28) (some (26, true)) (.ld1 (t 27)) 0 0 0,
  w (some 29) (some (26, true)) (.fa 3 (t 1)) 0 0 0,
  w (some 30) (some (26, true)) (.ld1 (t 29)) 0 0 0,
  w (some 31) (some (26, true)) (.ibin .lss (t 28) (t 30)) 0 0 0,
  p 32 (.pick (t 26) (t 31) (.c (.bool false))),
  p 33 (.mv (t 32)),
  w (some 34) (some (33, true)) (.fa 5 (t 1)) 0 0 0,
  w (some 35) (some (33, true)) (.ld1 (t 34)) 0 0 0,
  w (some 36) (some (33, true)) (.pcall 44 [(t 35)]) 0 0 0,
  p 37 (.pick (t 33) (t 36) (.c (.bool false))),
  p 2 (.mv (t 37))])
 (EC.ret)))
 [.t 2]
/- (*glowworm/query.Query).Log -/
noncomputable def e14 : EFunc := EFunc.mk 9 false
 (s (o [p 2 (.mv (.c .nilp))])
 (s (s (o [p 3 (.mv (t 0)),
  p 4 (.neq0 false 0 (t 3) (.c .nilp))])
 (EC.cond (t 4)
 (s (o [p 2 (.mv (.c .nilp))])
 (EC.ret))
 (EC.skip)))
 (s (o [p 5 (.mv (t 0)),
  p 6 (.nilchk (t 5)),
  p 7 (.fa 7 (t 6)),
  p 8 (.ld1 (t 7)),
  p 2 (.mv (t 8))])
 (EC.ret))))
 [.t 2]
/- (*glowworm/log.Log).Len -/
noncomputable def e15 : EFunc := EFunc.mk 10 false
 (s (o [p 2 (.mv (ii 0))])
 (s (s (o [p 3 (.mv (t 0)),
  p 4 (.neq0 false 0 (t 3) (.c .nilp))])
 (EC.cond (t 4)
 (s (o [p 2 (.mv (ii 0))])
 (EC.ret))
 (EC.skip)))
 (s (o [p 5 (.mv (t 0)),
  p 6 (.nilchk (t 5)),
  p 7 (.fa 1 (t 6)),
  p 8 (.ld1 (t 7)),
  p 9 (.len (t 8)),
  p 2 (.mv (t 9))])
 (EC.ret))))
 [.t 2]
/- glowworm/glowwormlaw16.b2i -/
noncomputable def e16 : EFunc := EFunc.mk 4 true
 (s (o [p 2 (.mv (ii 0))])
 (s (s (o [p 3 (.mv (t 0))])
 (EC.cond (t 3)
 (s (o [p 2 (.mv (ii 1))])
 (EC.ret))
 (EC.skip)))
 (s (o [p 2 (.mv (ii 0))])
 (EC.ret))))
 [.t 2]
/- glowworm/reply.New -/
noncomputable def e17 : EFunc := EFunc.mk 20 false
 (s (o [p 4 (.mv (.c .nilp))])
 (s (s (o [p 5 (.mv (t 0)),
  p 6 (.ibin .eql (t 5) (.c (.int .u32 0))),
  p 7 (.mv (t 6)),
  w (some 8) (some (7, false)) (.mv (t 0)) 0 0 0,
  w (some 9) (some (7, false)) (.ibin .eql (t 8) (.c (.int .u32 4294967295))) 0 0 0,
  p 10 (.pick (t 7) (.c (.bool true)) (t 9)),
  p 11 (.mv (t 10)),
  w (some 12) (some (11, false)) (.mv (t 1)) 0 0 0,
  w (some 13) (some (11, false)) (.pcall 45 [(t 12)]) 0 0 0,
  w (some 14) (some (11, false)) (.un .not (t 13)) 0 0 0,
  p 15 (.pick (t 11) (.c (.bool true)) (t 14))])
 (EC.cond (t 15)
 (s (o [p 4 (.mv (.c .nilp))])
 (EC.ret))
 (EC.skip)))
 (s (o [p 16 (.mv (t 0)),
  p 17 (.mv (t 1)),
  p 18 (.build [(.int .u32 0), (.str []), (.bool false), (.int .u32 0), (.int .i64 0), (.int .i64 0)] [(0, 1, (t 16)), (1, 1, (t 17))]),
  p 19 (.box (t 18)),
  p 4 (.mv (t 19))])
 (EC.ret))))
 [.t 4]
/- glowworm/glowwormref8.Own -/
noncomputable def e18 : EFunc := EFunc.mk 9 true
 (s (o [p 2 (.mv (.c (.bool false)))])
 (s (o [p 3 (.mv (t 0)),
  p 4 (.ibin .neq (t 3) (.c (.int .u32 0))),
  p 5 (.mv (t 4)),
  w (some 6) (some (5, true)) (.mv (t 0)) 0 0 0,
  w (some 7) (some (5, true)) (.ibin .neq (t 6) (.c (.int .u32 4294967295))) 0 0 0,
  p 8 (.pick (t 5) (t 7) (.c (.bool false))),
  p 2 (.mv (t 8))])
 (EC.ret)))
 [.t 2]
/- (*glowworm/reply.Reply).Hear -/
noncomputable def e19 : EFunc := EFunc.mk 123 false
 (s (o [p 4 (.box (t 1)),
  p 6 (.new [(.int .u32 0), (.int .u32 0), (.int .i64 0), (.int .i64 0), (.bool false), (.str [])]),
  p 7 (.mv (ii 0)),
  p 8 (.mv (.c (.bool false)))])
 (s (EC.block 0 (s (o [p 13 (.mv (t 0)),
  p 14 (.neq0 false 0 (t 13) (.c .nilp)),
  p 15 (.mv (t 14)),
  w (some 16) (some (15, false)) (.ldn 6 (t 4)) 0 0 0,
  w (some 17) (some (15, false)) (.pcall 43 [(t 16)]) 0 0 0,
  w (some 18) (some (15, false)) (.un .not (t 17)) 0 0 0,
  p 19 (.pick (t 15) (.c (.bool true)) (t 18)),
  p 12 (.mv (t 19))])
 (EC.cond (t 12)
 (s (o [p 20 (.build [(.int .u32 0), (.int .u32 0), (.int .i64 0), (.int .i64 0), (.bool false), (.str [])] []),
  q (.st 6 (t 6) (t 20)),
  p 7 (.mv (ii 0)),
  p 8 (.mv (.c (.bool false)))])
 (EC.ret))
 (s (EC.draw 12 [w (some 22) none (.fa 4 (t 4)) 0 0 0,
  w (some 23) none (.ld1 (t 22)) 0 0 1,
  w (some 24) none (.mv (t 23)) 0 0 2,
  w (some 25) (some (24, true)) (.fa 1 (t 4)) 0 0 3,
  w (some 26) (some (24, true)) (.ld1 (t 25)) 0 0 4,
  w (some 27) (some (24, true)) (.mv (t 0)) 0 0 5,
  w (some 28) (some (24, true)) (.nilchk (t 27)) 0 0 6,
  w (some 29) (some (24, true)) (.fa 0 (t 28)) 0 0 7,
  w (some 30) (some (24, true)) (.ld1 (t 29)) 0 0 8,
  w (some 31) (some (24, true)) (.ibin .eql (t 26) (t 30)) 0 0 9,
  w (some 32) none (.pick (t 24) (t 31) (.c (.bool false))) 0 0 10,
  w (some 21) none (.mv (t 32)) 0 0 11])
 (EC.cond (t 21)
 (s (o [p 34 (.mv (t 2)),
  p 35 (.mv (t 0)),
  p 36 (.nilchk (t 35)),
  p 37 (.fa 0 (t 36)),
  p 38 (.ld1 (t 37)),
  p 39 (.bslice 1 1 [(.int .u32 0)] [(0, 1, (t 38))]),
  p 40 (.call 46 [(t 34), (t 39)]),
  p 33 (.mv (t 40)),
  p 41 (.ext (t 33) 0),
  p 42 (.ext (t 33) 1),
  p 9 (.mv (t 41)),
  p 10 (.mv (t 42))])
 (s (o [p 43 (.mv (t 0)),
  p 44 (.mv (t 9)),
  p 45 (.nilchk (t 43)),
  p 46 (.fa 0 (t 45)),
  q (.st 1 (t 46) (t 44))])
 (s (o [p 47 (.build [(.int .u32 0), (.int .u32 0), (.int .i64 0), (.int .i64 0), (.bool false), (.str [])] []),
  p 48 (.mv (t 10)),
  q (.st 6 (t 6) (t 47)),
  p 7 (.mv (t 48)),
  p 8 (.mv (.c (.bool false)))])
 (EC.ret))))
 (s (o [p 50 (.fa 4 (t 4)),
  p 51 (.ld1 (t 50)),
  p 52 (.mv (t 51)),
  w (some 53) (some (52, false)) (.fa 1 (t 4)) 0 0 0,
  w (some 54) (some (52, false)) (.ld1 (t 53)) 0 0 0,
  w (some 55) (some (52, false)) (.ibin .neq (t 54) (.c (.int .u32 0))) 0 0 0,
  p 56 (.pick (t 52) (.c (.bool true)) (t 55)),
  p 49 (.mv (t 56))])
 (EC.cond (t 49)
 (s (o [p 57 (.build [(.int .u32 0), (.int .u32 0), (.int .i64 0), (.int .i64 0), (.bool false), (.str [])] []),
  q (.st 6 (t 6) (t 57)),
  p 7 (.mv (ii 0)),
  p 8 (.mv (.c (.bool false)))])
 (EC.ret))
 (s (o [p 59 (.fa 2 (t 4)),
  p 60 (.ld1 (t 59)),
  p 61 (.ibin .lss (t 60) (ii 0)),
  p 58 (.mv (t 61))])
 (EC.cond (t 58)
 (s (o [p 62 (.mv (t 0)),
  p 63 (.nilchk (t 62)),
  p 64 (.fa 2 (t 63)),
  q (.st 1 (t 64) (.c (.bool false)))])
 (s (o [p 65 (.build [(.int .u32 0), (.int .u32 0), (.int .i64 0), (.int .i64 0), (.bool false), (.str [])] []),
  q (.st 6 (t 6) (t 65)),
  p 7 (.mv (ii 0)),
  p 8 (.mv (.c (.bool false)))])
 (EC.ret)))
 (EC.skip))))))))))
 (s (o [p 11 (.mv (ii 0))])
 (s (s (EC.draw 28 [w (some 66) none (.mv (t 0)) 0 0 0,
  w (some 67) none (.nilchk (t 66)) 0 0 1,
  w (some 68) none (.fa 2 (t 67)) 0 0 2,
  w (some 69) none (.ld1 (t 68)) 0 0 3,
  w (some 70) none (.un .not (t 69)) 0 0 4,
  w (some 71) none (.mv (t 70)) 0 0 5,
  w (some 72) (some (71, false)) (.fa 2 (t 4)) 0 0 6,
  w (some 73) (some (71, false)) (.ld1 (t 72)) 0 0 7,
  w (some 74) (some (71, false)) (.ibin .eql (t 73) (ii 0)) 0 0 8,
  w (some 75) none (.pick (t 71) (.c (.bool true)) (t 74)) 0 0 9,
  w (some 76) none (.mv (t 75)) 0 0 10,
  w (some 77) (some (76, false)) (.fa 0 (t 4)) 0 0 11,
  w (some 78) (some (76, false)) (.ld1 (t 77)) 0 0 12,
  w (some 79) (some (76, false)) (.mv (t 0)) 0 0 13,
  w (some 80) (some (76, false)) (.nilchk (t 79)) 0 0 14,
  w (some 81) (some (76, false)) (.fa 3 (t 80)) 0 0 15,
  w (some 82) (some (76, false)) (.ld1 (t 81)) 0 0 16,
  w (some 83) (some (76, false)) (.ibin .neq (t 78) (t 82)) 0 0 17,
  w (some 84) none (.pick (t 76) (.c (.bool true)) (t 83)) 0 0 18,
  w (some 85) none (.mv (t 84)) 0 0 19,
  w (some 86) (some (85, false)) (.fa 3 (t 4)) 0 0 20,
  w (some 87) (some (85, false)) (.ld1 (t 86)) 0 0 21,
  w (some 88) (some (85, false)) (.mv (t 0)) 0 0 22,
  w (some 89) (some (85, false)) (.nilchk (t 88)) 0 0 23,
  w (some 90) (some (85, false)) (.fa 4 (t 89)) 0 0 24,
  w (some 91) (some (85, false)) (.ld1 (t 90)) 0 0 25,
  w (some 92) (some (85, false)) (.ibin .neq (t 87) (t 91)) 0 0 26,
  w (some 93) none (.pick (t 85) (.c (.bool true)) (t 92)) 0 0 27])
 (EC.cond (t 93)
 (o [p 94 (.mv (t 0)),
  p 95 (.ldn 6 (t 4)),
  p 96 (.mv (t 2)),
  p 97 (.call 47 [(t 94), (t 95), (t 96)]),
  p 11 (.mv (t 97))])
 (EC.skip)))
 (s (s (EC.draw 7 [w (some 98) none (.fa 2 (t 4)) 0 0 0,
  w (some 99) none (.ld1 (t 98)) 0 0 1,
  w (some 100) none (.mv (t 0)) 0 0 2,
  w (some 101) none (.nilchk (t 100)) 0 0 3,
  w (some 102) none (.fa 5 (t 101)) 0 0 4,
  w (some 103) none (.ld1 (t 102)) 0 0 5,
  w (some 104) none (.ibin .neq (t 99) (t 103)) 0 0 6])
 (EC.cond (t 104)
 (s (o [p 105 (.build [(.int .u32 0), (.int .u32 0), (.int .i64 0), (.int .i64 0), (.bool false), (.str [])] []),
  p 106 (.mv (t 11)),
  q (.st 6 (t 6) (t 105)),
  p 7 (.mv (t 106)),
  p 8 (.mv (.c (.bool false)))])
 (EC.ret))
 (EC.skip)))
 (s (EC.draw 19 [w (some 107) none (.mv (t 0)) 0 0 0,
  w (some 108) none (.nilchk (t 107)) 0 0 1,
  w (some 109) none (.fa 0 (t 108)) 0 0 2,
  w (some 110) none (.ld1 (t 109)) 0 0 3,
  w (some 111) none (.fa 0 (t 4)) 0 0 4,
  w (some 112) none (.ld1 (t 111)) 0 0 5,
  w (some 113) none (.fa 2 (t 4)) 0 0 6,
  w (some 114) none (.ld1 (t 113)) 0 0 7,
  w (some 115) none (.fa 3 (t 4)) 0 0 8,
  w (some 116) none (.ld1 (t 115)) 0 0 9,
  w (some 117) none (.mv (t 0)) 0 0 10,
  w (some 118) none (.nilchk (t 117)) 0 0 11,
  w (some 119) none (.fa 1 (t 118)) 0 0 12,
  w (some 120) none (.ld1 (t 119)) 0 0 13,
  w (some 121) none (.build [(.int .u32 0), (.int .u32 0), (.int .i64 0), (.int .i64 0), (.bool false), (.str [])] [(0, 1, (t 110)), (1, 1, (t 112)), (2, 1, (t 114)), (3, 1, (t 116)), (5, 1, (t 120))]) 0 0 14,
  w (some 122) none (.mv (t 11)) 0 1 15,
  w none none (.st 6 (t 6) (t 121)) 0 1 16,
  w (some 7) none (.mv (t 122)) 1 1 17,
  w (some 8) none (.mv (.c (.bool true))) 1 1 18])
 (EC.ret)))))))
 [.cn 6 6, .t 7, .t 8]
/- glowworm/glowwormref8.Fresh -/
noncomputable def e20 : EFunc := EFunc.mk 42 false
 (s (o [p 4 (.mv (.c (.int .u32 0))),
  p 5 (.mv (ii 0))])
 (s (s (o [p 6 (.mv (ii 0))])
 (EC.block 0 (EC.loop (s (s (o [p 8 (.mv (t 6)),
  p 9 (.mv (t 0)),
  p 10 (.len (t 9)),
  p 11 (.ibin .lss (t 8) (t 10))])
 (EC.cond (t 11)
 (EC.skip)
 (EC.exit 0)))
 (s (EC.block 1 (s (o [p 14 (.mv (t 0)),
  p 15 (.mv (t 6)),
  p 16 (.ia 1 (t 14) (t 15)),
  p 17 (.ld1 (t 16)),
  p 18 (.pcall 18 [(t 17)]),
  p 19 (.mv (t 18)),
  w (some 20) (some (19, true)) (.mv (t 1)) 0 0 0,
  w (some 21) (some (19, true)) (.mv (t 0)) 0 0 0,
  w (some 22) (some (19, true)) (.mv (t 6)) 0 0 0,
  w (some 23) (some (19, true)) (.ia 1 (t 21) (t 22)) 0 0 0,
  w (some 24) (some (19, true)) (.ld1 (t 23)) 0 0 0,
  w (some 25) (some (19, true)) (.call 48 [(t 20), (t 24)]) 0 0 0,
  w (some 26) (some (19, true)) (.un .not (t 25)) 0 0 0,
  p 27 (.pick (t 19) (t 26) (.c (.bool false)))])
 (EC.cond (t 27)
 (s (o [p 28 (.mv (t 0)),
  p 29 (.mv (t 6)),
  p 30 (.ia 1 (t 28) (t 29)),
  p 31 (.ld1 (t 30)),
  p 32 (.mv (t 6)),
  p 33 (.ibin .add (t 32) (ii 1)),
  p 4 (.mv (t 31)),
  p 5 (.mv (t 33))])
 (EC.ret))
 (EC.skip))))
 (o [p 12 (.mv (t 6)),
  p 13 (.ibin .add (t 12) (ii 1)),
  p 6 (.mv (t 13))]))))))
 (s (o [p 7 (.mv (.c (.int .u32 1)))])
 (s (EC.block 2 (EC.loop (s (s (o [p 34 (.mv (t 1)),
  p 35 (.mv (t 7)),
  p 36 (.call 48 [(t 34), (t 35)])])
 (EC.cond (t 36)
 (EC.skip)
 (EC.exit 2)))
 (EC.block 3 (o [p 37 (.mv (t 7)),
  p 38 (.ibin .add (t 37) (.c (.int .u32 1))),
  p 7 (.mv (t 38))])))))
 (s (o [p 39 (.mv (t 7)),
  p 40 (.mv (t 0)),
  p 41 (.len (t 40)),
  p 4 (.mv (t 39)),
  p 5 (.mv (t 41))])
 (EC.ret))))))
 [.t 4, .t 5]
/- (*glowworm/reply.Reply).Id -/
noncomputable def e21 : EFunc := EFunc.mk 9 false
 (s (o [p 2 (.mv (.c (.int .u32 0)))])
 (s (s (o [p 3 (.mv (t 0)),
  p 4 (.neq0 false 0 (t 3) (.c .nilp))])
 (EC.cond (t 4)
 (s (o [p 2 (.mv (.c (.int .u32 0)))])
 (EC.ret))
 (EC.skip)))
 (s (o [p 5 (.mv (t 0)),
  p 6 (.nilchk (t 5)),
  p 7 (.fa 0 (t 6)),
  p 8 (.ld1 (t 7)),
  p 2 (.mv (t 8))])
 (EC.ret))))
 [.t 2]
/- glowworm/glowwormlaw4.Text -/
noncomputable def e22 : EFunc := EFunc.mk 11 true
 (s (o [p 4 (.mv (.c (.str [])))])
 (s (o [p 5 (.mv (t 0)),
  p 6 (.mv (t 0)),
  p 7 (.lenS (t 6)),
  p 8 (.mv (t 1)),
  p 9 (.mn [(t 7), (t 8)]),
  p 10 (.slS (t 5) none (some (t 9))),
  p 4 (.mv (t 10))])
 (EC.ret)))
 [.t 4]
/- glowworm/glowwormref16.NewQuery -/
noncomputable def e23 : EFunc := EFunc.mk 21 false
 (s (o [p 6 (.mv (.c .nilp))])
 (s (s (o [p 7 (.mv (t 0)),
  p 8 (.mv (t 2)),
  p 9 (.mv (t 1)),
  p 10 (.build [(.int .u32 0), (.int .u32 0), (.int .i64 0), (.int .i64 0), (.bool false), (.str [])] [(0, 1, (t 7)), (3, 1, (t 8)), (5, 1, (t 9))]),
  p 11 (.pcall 13 [(t 10)]),
  p 12 (.un .not (t 11))])
 (EC.cond (t 12)
 (s (o [p 6 (.mv (.c .nilp))])
 (EC.ret))
 (EC.skip)))
 (s (o [p 13 (.mv (t 0)),
  p 14 (.mv (t 1)),
  p 15 (.mv (t 2)),
  p 16 (.mv (t 0)),
  p 17 (.build [(.int .u32 0), .nils, .nils] [(0, 1, (t 16))]),
  p 18 (.box (t 17)),
  p 19 (.build [(.int .u32 0), (.str []), (.int .i64 0), (.int .i64 0), .nilp] [(0, 1, (t 13)), (1, 1, (t 14)), (2, 1, (t 15)), (4, 1, (t 18))]),
  p 20 (.box (t 19)),
  p 6 (.mv (t 20))])
 (EC.ret))))
 [.t 6]
/- (*glowworm/glowwormref16.Query).Hear -/
noncomputable def e24 : EFunc := EFunc.mk 32 false
 (s (o [p 3 (.box (t 1)),
  p 4 (.mv (.c (.bool false)))])
 (s (EC.draw 28 [w (some 5) none (.mv (t 0)) 0 0 0,
  w (some 6) none (.call 26 [(t 5)]) 0 1 1,
  w (some 7) none (.un .not (t 6)) 1 1 2,
  w (some 8) none (.mv (t 7)) 1 1 3,
  w (some 9) (some (8, true)) (.mv (t 0)) 1 1 4,
  w (some 10) (some (8, true)) (.nilchk (t 9)) 1 1 5,
  w (some 11) (some (8, true)) (.fa 3 (t 10)) 1 1 6,
  w (some 12) (some (8, true)) (.ld1 (t 11)) 1 1 7,
  w (some 13) (some (8, true)) (.ibin .gtr (t 12) (ii 0)) 1 1 8,
  w (some 14) none (.pick (t 8) (t 13) (.c (.bool false))) 1 1 9,
  w (some 15) none (.mv (t 14)) 1 1 10,
  w (some 16) (some (15, true)) (.fa 1 (t 3)) 1 1 11,
  w (some 17) (some (15, true)) (.ld1 (t 16)) 1 1 12,
  w (some 18) (some (15, true)) (.mv (t 0)) 1 1 13,
  w (some 19) (some (15, true)) (.nilchk (t 18)) 1 1 14,
  w (some 20) (some (15, true)) (.fa 0 (t 19)) 1 1 15,
  w (some 21) (some (15, true)) (.ld1 (t 20)) 1 1 16,
  w (some 22) (some (15, true)) (.ibin .eql (t 17) (t 21)) 1 1 17,
  w (some 23) none (.pick (t 15) (t 22) (.c (.bool false))) 1 1 18,
  w (some 24) none (.mv (t 23)) 1 1 19,
  w (some 25) (some (24, true)) (.mv (t 0)) 1 1 20,
  w (some 26) (some (24, true)) (.nilchk (t 25)) 1 1 21,
  w (some 27) (some (24, true)) (.fa 4 (t 26)) 1 1 22,
  w (some 28) (some (24, true)) (.ld1 (t 27)) 1 1 23,
  w (some 29) (some (24, true)) (.ldn 6 (t 3)) 1 1 24,
  w (some 30) (some (24, true)) (.call 49 [(t 28), (t 29)]) 1 2 25,
  w (some 31) none (.pick (t 24) (t 30) (.c (.bool false))) 2 2 26,
  w (some 4) none (.mv (t 31)) 2 2 27])
 (EC.ret)))
 [.t 4]
/- (*glowworm/query.Query).Over -/
noncomputable def e25 : EFunc := EFunc.mk 19 false
 (s (o [p 2 (.mv (.c (.bool false)))])
 (s (EC.draw 17 [w (some 3) none (.mv (t 0)) 0 0 0,
  w (some 4) none (.neq0 false 0 (t 3) (.c .nilp)) 0 0 1,
  w (some 5) none (.mv (t 4)) 0 0 2,
  w (some 6) (some (5, false)) (.mv (t 0)) 0 0 3,
  w (some 7) (some (5, false)) (.nilchk (t 6)) 0 0 4,
  w (some 8) (some (5, false)) (.fa 6 (t 7)) 0 0 5,
  w (some 9) (some (5, false)) (.ld1 (t 8)) 0 0 6,
  w (some 10) (some (5, false)) (.mv (t 0)) 0 0 7,
  w (some 11) (some (5, false)) (.nilchk (t 10)) 0 0 8,
  w (some 12) (some (5, false)) (.fa 0 (t 11)) 0 0 9,
  w (some 13) (some (5, false)) (.fa 3 (t 12)) 0 0 10,
  w (some 14) (some (5, false)) (.ld1 (t 13)) 0 0 11,
  w (some 15) (some (5, false)) (.ibin .mul (t 14) (ii 8)) 0 0 12,
  w (some 16) (some (5, false)) (.ibin .add (t 15) (ii 1)) 0 0 13,
  w (some 17) (some (5, false)) (.ibin .gtr (t 9) (t 16)) 0 0 14,
  w (some 18) none (.pick (t 5) (.c (.bool true)) (t 17)) 0 0 15,
  w (some 2) none (.mv (t 18)) 0 0 16])
 (EC.ret)))
 [.t 2]
/- (*glowworm/glowwormref16.Query).Over -/
noncomputable def e26 : EFunc := EFunc.mk 14 false
 (s (o [p 2 (.mv (.c (.bool false)))])
 (s (EC.draw 12 [w (some 3) none (.mv (t 0)) 0 0 0,
  w (some 4) none (.nilchk (t 3)) 0 0 1,
  w (some 5) none (.fa 3 (t 4)) 0 0 2,
  w (some 6) none (.ld1 (t 5)) 0 0 3,
  w (some 7) none (.mv (t 0)) 0 0 4,
  w (some 8) none (.nilchk (t 7)) 0 0 5,
  w (some 9) none (.fa 2 (t 8)) 0 0 6,
  w (some 10) none (.ld1 (t 9)) 0 0 7,
  w (some 11) none (.ibin .mul (t 10) (ii 8)) 0 0 8,
  w (some 12) none (.ibin .add (t 11) (ii 1)) 0 0 9,
  w (some 13) none (.ibin .gtr (t 6) (t 12)) 0 0 10,
  w (some 2) none (.mv (t 13)) 0 0 11])
 (EC.ret)))
 [.t 2]
/- glowworm/glowwormlaw16.devices -/
noncomputable def e27 : EFunc := EFunc.mk 26 false
 (s (o [p 4 (.mv (.c (.bool false)))])
 (s (s (o [p 6 (.mv (t 0)),
  p 7 (.len (t 6)),
  p 8 (.mv (t 1)),
  p 9 (.len (t 8)),
  p 10 (.ibin .neq (t 7) (t 9))])
 (EC.cond (t 10)
 (s (o [p 4 (.mv (.c (.bool false)))])
 (EC.ret))
 (EC.skip)))
 (s (s (o [p 11 (.mv (t 0)),
  p 12 (.len (t 11)),
  p 13 (.mv (ii 0))])
 (EC.block 0 (EC.loop (s (o [p 14 (.ibin .lss (t 13) (t 12))])
 (s (EC.cond (t 14)
 (EC.skip)
 (EC.exit 0))
 (s (EC.block 1 (s (o [p 15 (.mv (t 13)),
  p 5 (.mv (t 15))])
 (s (EC.draw 9 [w (some 16) none (.mv (t 0)) 0 0 0,
  w (some 17) none (.mv (t 5)) 0 0 1,
  w (some 18) none (.ia 2 (t 16) (t 17)) 0 0 2,
  w (some 19) none (.ldn 2 (t 18)) 0 0 3,
  w (some 20) none (.mv (t 1)) 0 0 4,
  w (some 21) none (.mv (t 5)) 0 0 5,
  w (some 22) none (.ia 2 (t 20) (t 21)) 0 0 6,
  w (some 23) none (.ldn 2 (t 22)) 0 0 7,
  w (some 24) none (.aeq true [1, 2] (t 19) (t 23)) 0 0 8])
 (EC.cond (t 24)
 (s (o [p 4 (.mv (.c (.bool false)))])
 (EC.ret))
 (EC.skip)))))
 (o [p 25 (.ibin .add (t 13) (ii 1)),
  p 13 (.mv (t 25))])))))))
 (s (o [p 4 (.mv (.c (.bool true)))])
 (EC.ret)))))
 [.t 4]
/- (*glowworm/log.Log).All -/
noncomputable def e28 : EFunc := EFunc.mk 10 false
 (s (o [p 2 (.mv (.c .nils))])
 (s (s (o [p 3 (.mv (t 0)),
  p 4 (.neq0 false 0 (t 3) (.c .nilp))])
 (EC.cond (t 4)
 (s (o [p 2 (.mv (.c .nils))])
 (EC.ret))
 (EC.skip)))
 (s (o [p 5 (.mv (t 0)),
  p 6 (.nilchk (t 5)),
  p 7 (.fa 1 (t 6)),
  p 8 (.ld1 (t 7)),
  p 9 (.call 50 [(t 8)]),
  p 2 (.mv (t 9))])
 (EC.ret))))
 [.t 2]
/- (*glowworm/glowwormref16.Log).All -/
noncomputable def e29 : EFunc := EFunc.mk 35 false
 (s (o [p 2 (.mv (.c .nils))])
 (s (o [p 3 (.mv (.c .nils))])
 (s (s (o [p 4 (.mv (ii 0))])
 (EC.block 0 (EC.loop (s (s (o [p 5 (.mv (t 4)),
  p 6 (.mv (t 0)),
  p 7 (.nilchk (t 6)),
  p 8 (.fa 1 (t 7)),
  p 9 (.ld1 (t 8)),
  p 10 (.len (t 9)),
  p 11 (.ibin .lss (t 5) (t 10))])
 (EC.cond (t 11)
 (EC.skip)
 (EC.exit 0)))
 (s (EC.block 1 (EC.draw 21 [w (some 14) none (.mv (t 3)) 0 0 0,
  w (some 15) none (.mv (t 0)) 0 0 1,
  w (some 16) none (.nilchk (t 15)) 0 0 2,
  w (some 17) none (.fa 1 (t 16)) 0 0 3,
  w (some 18) none (.ld1 (t 17)) 0 0 4,
  w (some 19) none (.mv (t 4)) 0 0 5,
  w (some 20) none (.ia 3 (t 18) (t 19)) 0 0 6,
  w (some 21) none (.fa 0 (t 20)) 0 0 7,
  w (some 22) none (.ld1 (t 21)) 0 0 8,
  w (some 23) none (.mv (t 0)) 0 0 9,
  w (some 24) none (.nilchk (t 23)) 0 0 10,
  w (some 25) none (.fa 1 (t 24)) 0 0 11,
  w (some 26) none (.ld1 (t 25)) 0 0 12,
  w (some 27) none (.mv (t 4)) 0 0 13,
  w (some 28) none (.ia 3 (t 26) (t 27)) 0 0 14,
  w (some 29) none (.fa 1 (t 28)) 0 0 15,
  w (some 30) none (.ld1 (t 29)) 0 0 16,
  w (some 31) none (.build [(.int .u32 0), (.str [])] [(0, 1, (t 22)), (1, 1, (t 30))]) 0 0 17,
  w (some 32) none (.bslice 2 1 [(.int .u32 0), (.str [])] [(0, 2, (t 31))]) 0 0 18,
  w (some 33) none (.app 2 24 (t 14) (t 32)) 0 1 19,
  w (some 3) none (.mv (t 33)) 1 1 20]))
 (o [p 12 (.mv (t 4)),
  p 13 (.ibin .add (t 12) (ii 1)),
  p 4 (.mv (t 13))]))))))
 (s (o [p 34 (.mv (t 3)),
  p 2 (.mv (t 34))])
 (EC.ret)))))
 [.t 2]
/- glowworm/glowwormlaw16.ids -/
noncomputable def e30 : EFunc := EFunc.mk 26 false
 (s (o [p 4 (.mv (.c (.bool false)))])
 (s (s (o [p 6 (.mv (t 0)),
  p 7 (.len (t 6)),
  p 8 (.mv (t 1)),
  p 9 (.len (t 8)),
  p 10 (.ibin .neq (t 7) (t 9))])
 (EC.cond (t 10)
 (s (o [p 4 (.mv (.c (.bool false)))])
 (EC.ret))
 (EC.skip)))
 (s (s (o [p 11 (.mv (t 0)),
  p 12 (.len (t 11)),
  p 13 (.mv (ii 0))])
 (EC.block 0 (EC.loop (s (o [p 14 (.ibin .lss (t 13) (t 12))])
 (s (EC.cond (t 14)
 (EC.skip)
 (EC.exit 0))
 (s (EC.block 1 (s (o [p 15 (.mv (t 13)),
  p 5 (.mv (t 15))])
 (s (EC.draw 9 [w (some 16) none (.mv (t 0)) 0 0 0,
  w (some 17) none (.mv (t 5)) 0 0 1,
  w (some 18) none (.ia 1 (t 16) (t 17)) 0 0 2,
  w (some 19) none (.ld1 (t 18)) 0 0 3,
  w (some 20) none (.mv (t 1)) 0 0 4,
  w (some 21) none (.mv (t 5)) 0 0 5,
  w (some 22) none (.ia 1 (t 20) (t 21)) 0 0 6,
  w (some 23) none (.ld1 (t 22)) 0 0 7,
  w (some 24) none (.ibin .neq (t 19) (t 23)) 0 0 8])
 (EC.cond (t 24)
 (s (o [p 4 (.mv (.c (.bool false)))])
 (EC.ret))
 (EC.skip)))))
 (o [p 25 (.ibin .add (t 13) (ii 1)),
  p 13 (.mv (t 25))])))))))
 (s (o [p 4 (.mv (.c (.bool true)))])
 (EC.ret)))))
 [.t 4]
/- (*glowworm/log.Log).Clash -/
noncomputable def e31 : EFunc := EFunc.mk 10 false
 (s (o [p 2 (.mv (.c .nils))])
 (s (s (o [p 3 (.mv (t 0)),
  p 4 (.neq0 false 0 (t 3) (.c .nilp))])
 (EC.cond (t 4)
 (s (o [p 2 (.mv (.c .nils))])
 (EC.ret))
 (EC.skip)))
 (s (o [p 5 (.mv (t 0)),
  p 6 (.nilchk (t 5)),
  p 7 (.fa 3 (t 6)),
  p 8 (.ld1 (t 7)),
  p 9 (.call 51 [(t 8)]),
  p 2 (.mv (t 9))])
 (EC.ret))))
 [.t 2]
/- (*glowworm/glowwormref16.Log).Clash -/
noncomputable def e32 : EFunc := EFunc.mk 71 false
 (s (o [p 2 (.mv (.c .nils))])
 (s (o [p 3 (.mv (.c .nils))])
 (s (s (o [p 4 (.mv (ii 0))])
 (EC.block 0 (EC.loop (s (s (o [p 6 (.mv (t 4)),
  p 7 (.mv (t 0)),
  p 8 (.nilchk (t 7)),
  p 9 (.fa 2 (t 8)),
  p 10 (.ld1 (t 9)),
  p 11 (.len (t 10)),
  p 12 (.ibin .lss (t 6) (t 11))])
 (EC.cond (t 12)
 (EC.skip)
 (EC.exit 0)))
 (s (EC.block 1 (s (o [p 5 (.mv (ii 0))])
 (s (EC.block 2 (EC.loop (s (s (EC.draw 18 [w (some 15) none (.mv (t 5)) 0 0 0,
  w (some 16) none (.mv (t 3)) 0 0 1,
  w (some 17) none (.len (t 16)) 0 0 2,
  w (some 18) none (.ibin .lss (t 15) (t 17)) 0 0 3,
  w (some 19) none (.mv (t 18)) 0 0 4,
  w (some 20) (some (19, true)) (.mv (t 3)) 0 0 5,
  w (some 21) (some (19, true)) (.mv (t 5)) 0 0 6,
  w (some 22) (some (19, true)) (.ia 1 (t 20) (t 21)) 0 0 7,
  w (some 23) (some (19, true)) (.ld1 (t 22)) 0 0 8,
  w (some 24) (some (19, true)) (.mv (t 0)) 0 0 9,
  w (some 25) (some (19, true)) (.nilchk (t 24)) 0 0 10,
  w (some 26) (some (19, true)) (.fa 2 (t 25)) 0 0 11,
  w (some 27) (some (19, true)) (.ld1 (t 26)) 0 0 12,
  w (some 28) (some (19, true)) (.mv (t 4)) 0 0 13,
  w (some 29) (some (19, true)) (.ia 1 (t 27) (t 28)) 0 0 14,
  w (some 30) (some (19, true)) (.ld1 (t 29)) 0 0 15,
  w (some 31) (some (19, true)) (.ibin .lss (t 23) (t 30)) 0 0 16,
  w (some 32) none (.pick (t 19) (t 31) (.c (.bool false))) 0 0 17])
 (EC.cond (t 32)
 (EC.skip)
 (EC.exit 2)))
 (EC.block 3 (o [p 33 (.mv (t 5)),
  p 34 (.ibin .add (t 33) (ii 1)),
  p 5 (.mv (t 34))])))))
 (s (EC.draw 18 [w (some 35) none (.mv (t 5)) 0 0 0,
  w (some 36) none (.mv (t 3)) 0 0 1,
  w (some 37) none (.len (t 36)) 0 0 2,
  w (some 38) none (.ibin .eql (t 35) (t 37)) 0 0 3,
  w (some 39) none (.mv (t 38)) 0 0 4,
  w (some 40) (some (39, false)) (.mv (t 3)) 0 0 5,
  w (some 41) (some (39, false)) (.mv (t 5)) 0 0 6,
  w (some 42) (some (39, false)) (.ia 1 (t 40) (t 41)) 0 0 7,
  w (some 43) (some (39, false)) (.ld1 (t 42)) 0 0 8,
  w (some 44) (some (39, false)) (.mv (t 0)) 0 0 9,
  w (some 45) (some (39, false)) (.nilchk (t 44)) 0 0 10,
  w (some 46) (some (39, false)) (.fa 2 (t 45)) 0 0 11,
  w (some 47) (some (39, false)) (.ld1 (t 46)) 0 0 12,
  w (some 48) (some (39, false)) (.mv (t 4)) 0 0 13,
  w (some 49) (some (39, false)) (.ia 1 (t 47) (t 48)) 0 0 14,
  w (some 50) (some (39, false)) (.ld1 (t 49)) 0 0 15,
  w (some 51) (some (39, false)) (.ibin .neq (t 43) (t 50)) 0 0 16,
  w (some 52) none (.pick (t 39) (.c (.bool true)) (t 51)) 0 0 17])
 (EC.cond (t 52)
 (EC.draw 18 [w (some 53) none (.mv (t 3)) 0 0 0,
  w (some 54) none (.mv (t 5)) 0 0 1,
  w (some 55) none (.slL 1 (t 53) none (some (t 54)) none) 0 0 2,
  w (some 56) none (.app 1 4 (.c .nils) (t 55)) 0 1 3,
  w (some 57) none (.mv (t 0)) 0 1 4,
  w (some 58) none (.nilchk (t 57)) 0 1 5,
  w (some 59) none (.fa 2 (t 58)) 0 1 6,
  w (some 60) none (.ld1 (t 59)) 0 1 7,
  w (some 61) none (.mv (t 4)) 0 1 8,
  w (some 62) none (.ia 1 (t 60) (t 61)) 0 1 9,
  w (some 63) none (.ld1 (t 62)) 0 1 10,
  w (some 64) none (.bslice 1 1 [(.int .u32 0)] [(0, 1, (t 63))]) 0 1 11,
  w (some 65) none (.app 1 4 (t 56) (t 64)) 1 2 12,
  w (some 66) none (.mv (t 3)) 0 2 13,
  w (some 67) none (.mv (t 5)) 0 2 14,
  w (some 68) none (.slL 1 (t 66) (some (t 67)) none none) 0 2 15,
  w (some 69) none (.app 1 4 (t 65) (t 68)) 2 3 16,
  w (some 3) none (.mv (t 69)) 3 3 17])
 (EC.skip))))))
 (o [p 13 (.mv (t 4)),
  p 14 (.ibin .add (t 13) (ii 1)),
  p 4 (.mv (t 14))]))))))
 (s (o [p 70 (.mv (t 3)),
  p 2 (.mv (t 70))])
 (EC.ret)))))
 [.t 2]
/- (*glowworm/glowwormref16.Query).Tick -/
noncomputable def e33 : EFunc := EFunc.mk 62 false
 (s (o [p 2 (.new [(.int .u32 0), (.int .u32 0), (.int .i64 0), (.int .i64 0), (.bool false), (.str [])]),
  p 3 (.mv (.c (.bool false)))])
 (s (o [p 6 (.mv (t 0)),
  p 7 (.nilchk (t 6)),
  p 8 (.fa 3 (t 7)),
  p 9 (.ld1 (t 8)),
  p 4 (.mv (t 9))])
 (s (EC.draw 16 [w (some 10) none (.mv (t 0)) 0 0 0,
  w (some 11) none (.mv (t 0)) 0 0 1,
  w (some 12) none (.nilchk (t 11)) 0 0 2,
  w (some 13) none (.fa 3 (t 12)) 0 0 3,
  w (some 14) none (.ld1 (t 13)) 0 0 4,
  w (some 15) none (.ibin .add (t 14) (ii 1)) 0 0 5,
  w (some 16) none (.mv (t 0)) 0 0 6,
  w (some 17) none (.nilchk (t 16)) 0 0 7,
  w (some 18) none (.fa 2 (t 17)) 0 0 8,
  w (some 19) none (.ld1 (t 18)) 0 0 9,
  w (some 20) none (.ibin .mul (t 19) (ii 8)) 0 0 10,
  w (some 21) none (.ibin .add (t 20) (ii 2)) 0 0 11,
  w (some 22) none (.mn [(t 15), (t 21)]) 0 0 12,
  w (some 23) none (.nilchk (t 10)) 0 0 13,
  w (some 24) none (.fa 3 (t 23)) 0 0 14,
  w none none (.st 1 (t 24) (t 22)) 0 1 15])
 (s (s (o [p 25 (.mv (t 4)),
  p 26 (.ibin .rem (t 25) (ii 8)),
  p 27 (.ibin .neq (t 26) (ii 0)),
  p 28 (.mv (t 27)),
  w (some 29) (some (28, false)) (.mv (t 4)) 0 0 0,
  w (some 30) (some (28, false)) (.mv (t 0)) 0 0 0,
  w (some 31) (some (28, false)) (.nilchk (t 30)) 0 0 0,
  w (some 32) (some (28, false)) (.fa 2 (t 31)) 0 0 0,
  w (some 33) (some (28, false)) (.ld1 (t 32)) 0 0 0,
  w (some 34) (some (28, false)) (.ibin .mul (t 33) (ii 8)) 0 0 0,
  w (some 35) (some (28, false)) (.ibin .gtr (t 29) (t 34)) 0 0 0,
  p 36 (.pick (t 28) (.c (.bool true)) (t 35))])
 (EC.cond (t 36)
 (s (o [p 37 (.build [(.int .u32 0), (.int .u32 0), (.int .i64 0), (.int .i64 0), (.bool false), (.str [])] []),
  q (.st 6 (t 2) (t 37)),
  p 3 (.mv (.c (.bool false)))])
 (EC.ret))
 (EC.skip)))
 (s (EC.draw 17 [w (some 38) none (.mv (t 0)) 0 0 0,
  w (some 39) none (.nilchk (t 38)) 0 0 1,
  w (some 40) none (.fa 0 (t 39)) 0 0 2,
  w (some 41) none (.ld1 (t 40)) 0 0 3,
  w (some 42) none (.mv (t 0)) 0 0 4,
  w (some 43) none (.nilchk (t 42)) 0 0 5,
  w (some 44) none (.fa 2 (t 43)) 0 0 6,
  w (some 45) none (.ld1 (t 44)) 0 0 7,
  w (some 46) none (.mv (t 4)) 0 0 8,
  w (some 47) none (.ibin .quo (t 46) (ii 8)) 0 0 9,
  w (some 48) none (.mv (t 0)) 0 0 10,
  w (some 49) none (.nilchk (t 48)) 0 0 11,
  w (some 50) none (.fa 1 (t 49)) 0 0 12,
  w (some 51) none (.ld1 (t 50)) 0 0 13,
  w (some 52) none (.build [(.int .u32 0), (.int .u32 0), (.int .i64 0), (.int .i64 0), (.bool false), (.str [])] [(0, 1, (t 41)), (3, 1, (t 45)), (2, 1, (t 47)), (5, 1, (t 51))]) 0 0 14,
  w (some 5) none (.new [(.int .u32 0), (.int .u32 0), (.int .i64 0), (.int .i64 0), (.bool false), (.str [])]) 0 0 15,
  w none none (.st 6 (t 5) (t 52)) 0 1 16])
 (s (s (EC.draw 7 [w (some 53) none (.fa 2 (t 5)) 0 0 0,
  w (some 54) none (.ld1 (t 53)) 0 0 1,
  w (some 55) none (.mv (t 0)) 0 0 2,
  w (some 56) none (.nilchk (t 55)) 0 0 3,
  w (some 57) none (.fa 2 (t 56)) 0 0 4,
  w (some 58) none (.ld1 (t 57)) 0 0 5,
  w (some 59) none (.ibin .eql (t 54) (t 58)) 0 0 6])
 (EC.cond (t 59)
 (o [p 60 (.fa 2 (t 5)),
  q (.st 1 (t 60) (ii (-1)))])
 (EC.skip)))
 (s (o [p 61 (.ldn 6 (t 5)),
  q (.st 6 (t 2) (t 61)),
  p 3 (.mv (.c (.bool true)))])
 (EC.ret))))))))
 [.cn 2 6, .t 3]
/- glowworm/log.New -/
noncomputable def e34 : EFunc := EFunc.mk 6 false
 (s (o [p 2 (.mv (.c .nilp))])
 (s (o [p 3 (.mv (t 0)),
  p 4 (.build [(.int .u32 0), .nils, .nils, .nils] [(0, 1, (t 3))]),
  p 5 (.box (t 4)),
  p 2 (.mv (t 5))])
 (EC.ret)))
 [.t 2]
/- (*glowworm/log.Log).Add -/
noncomputable def e35 : EFunc := EFunc.mk 93 false
 (s (o [p 3 (.box (t 1)),
  p 4 (.mv (.c (.bool false)))])
 (s (s (o [p 6 (.mv (t 0)),
  p 7 (.neq0 false 0 (t 6) (.c .nilp)),
  p 8 (.mv (t 7)),
  w (some 9) (some (8, false)) (.ldn 6 (t 3)) 0 0 0,
  w (some 10) (some (8, false)) (.pcall 43 [(t 9)]) 0 0 0,
  w (some 11) (some (8, false)) (.un .not (t 10)) 0 0 0,
  p 12 (.pick (t 8) (.c (.bool true)) (t 11))])
 (EC.cond (t 12)
 (s (o [p 4 (.mv (.c (.bool false)))])
 (EC.ret))
 (EC.skip)))
 (s (o [p 13 (.mv (t 0)),
  p 14 (.nilchk (t 13)),
  p 15 (.fa 1 (t 14)),
  p 16 (.ld1 (t 15)),
  p 17 (.mkF 53 [] [(t 3)]),
  p 18 (.call 52 [(t 16), (t 17)]),
  p 5 (.mv (t 18))])
 (s (EC.block 0 (s (s (EC.draw 8 [w (some 20) none (.fa 0 (t 3)) 0 0 0,
  w (some 21) none (.ld1 (t 20)) 0 0 1,
  w (some 22) none (.mv (t 0)) 0 0 2,
  w (some 23) none (.nilchk (t 22)) 0 0 3,
  w (some 24) none (.fa 0 (t 23)) 0 0 4,
  w (some 25) none (.ld1 (t 24)) 0 0 5,
  w (some 26) none (.ibin .eql (t 21) (t 25)) 0 0 6,
  w (some 19) none (.mv (t 26)) 0 0 7])
 (EC.cond (t 19)
 (EC.skip)
 (EC.draw 28 [w (some 27) none (.mv (t 5)) 0 0 0,
  w (some 28) none (.ibin .geq (t 27) (ii 0)) 0 0 1,
  w (some 29) none (.mv (t 28)) 0 0 2,
  w (some 30) (some (29, true)) (.mv (t 0)) 0 0 3,
  w (some 31) (some (29, true)) (.nilchk (t 30)) 0 0 4,
  w (some 32) (some (29, true)) (.fa 1 (t 31)) 0 0 5,
  w (some 33) (some (29, true)) (.ld1 (t 32)) 0 0 6,
  w (some 34) (some (29, true)) (.mv (t 5)) 0 0 7,
  w (some 35) (some (29, true)) (.ia 2 (t 33) (t 34)) 0 0 8,
  w (some 36) (some (29, true)) (.fa 1 (t 35)) 0 0 9,
  w (some 37) (some (29, true)) (.ld1 (t 36)) 0 0 10,
  w (some 38) (some (29, true)) (.fa 5 (t 3)) 0 0 11,
  w (some 39) (some (29, true)) (.ld1 (t 38)) 0 0 12,
  w (some 40) (some (29, true)) (.sbin .neq (t 37) (t 39)) 0 0 13,
  w (some 41) (some (29, true)) (.mv (t 40)) 0 0 14,
  w (some 42) (some (41, false)) (.mv (t 0)) 0 0 15,
  w (some 43) (some (41, false)) (.nilchk (t 42)) 0 0 16,
  w (some 44) (some (41, false)) (.fa 2 (t 43)) 0 0 17,
  w (some 45) (some (41, false)) (.ld1 (t 44)) 0 0 18,
  w (some 46) (some (41, false)) (.mv (t 5)) 0 0 19,
  w (some 47) (some (41, false)) (.ia 1 (t 45) (t 46)) 0 0 20,
  w (some 48) (some (41, false)) (.ld1 (t 47)) 0 0 21,
  w (some 49) (some (41, false)) (.fa 2 (t 3)) 0 0 22,
  w (some 50) (some (41, false)) (.ld1 (t 49)) 0 0 23,
  w (some 51) (some (41, false)) (.ibin .neq (t 48) (t 50)) 0 0 24,
  w (some 52) (some (29, true)) (.pick (t 41) (.c (.bool true)) (t 51)) 0 0 25,
  w (some 53) none (.pick (t 29) (t 52) (.c (.bool false))) 0 0 26,
  w (some 19) none (.mv (t 53)) 0 0 27])))
 (EC.cond (t 19)
 (s (o [p 54 (.mv (t 0)),
  p 55 (.fa 0 (t 3)),
  p 56 (.ld1 (t 55)),
  p 57 (.call 54 [(t 54), (t 56)]),
  p 4 (.mv (t 57))])
 (EC.ret))
 (s (o [p 59 (.mv (t 5)),
  p 60 (.ibin .geq (t 59) (ii 0)),
  p 58 (.mv (t 60))])
 (EC.cond (t 58)
 (s (o [p 4 (.mv (.c (.bool true)))])
 (EC.ret))
 (s (o [p 62 (.mv (t 0)),
  p 63 (.nilchk (t 62)),
  p 64 (.fa 1 (t 63)),
  p 65 (.ld1 (t 64)),
  p 66 (.len (t 65)),
  p 67 (.ibin .geq (t 66) (ii 16)),
  p 61 (.mv (t 67))])
 (EC.cond (t 61)
 (s (o [p 4 (.mv (.c (.bool false)))])
 (EC.ret))
 (EC.skip))))))))
 (s (EC.draw 15 [w (some 68) none (.mv (t 0)) 0 1 0,
  w (some 69) none (.mv (t 0)) 0 0 1,
  w (some 70) none (.nilchk (t 69)) 0 0 2,
  w (some 71) none (.fa 1 (t 70)) 0 0 3,
  w (some 72) none (.ld1 (t 71)) 0 0 4,
  w (some 73) none (.fa 0 (t 3)) 0 0 5,
  w (some 74) none (.ld1 (t 73)) 0 0 6,
  w (some 75) none (.fa 5 (t 3)) 0 0 7,
  w (some 76) none (.ld1 (t 75)) 0 0 8,
  w (some 77) none (.build [(.int .u32 0), (.str [])] [(0, 1, (t 74)), (1, 1, (t 76))]) 0 0 9,
  w (some 78) none (.bslice 2 1 [(.int .u32 0), (.str [])] [(0, 2, (t 77))]) 0 0 10,
  w (some 79) none (.app 2 24 (t 72) (t 78)) 0 1 11,
  w (some 80) none (.nilchk (t 68)) 1 1 12,
  w (some 81) none (.fa 1 (t 80)) 1 1 13,
  w none none (.st 1 (t 81) (t 79)) 1 2 14])
 (s (EC.draw 12 [w (some 82) none (.mv (t 0)) 0 1 0,
  w (some 83) none (.mv (t 0)) 0 0 1,
  w (some 84) none (.nilchk (t 83)) 0 0 2,
  w (some 85) none (.fa 2 (t 84)) 0 0 3,
  w (some 86) none (.ld1 (t 85)) 0 0 4,
  w (some 87) none (.fa 2 (t 3)) 0 0 5,
  w (some 88) none (.ld1 (t 87)) 0 0 6,
  w (some 89) none (.bslice 1 1 [(.int .i64 0)] [(0, 1, (t 88))]) 0 0 7,
  w (some 90) none (.app 1 8 (t 86) (t 89)) 0 1 8,
  w (some 91) none (.nilchk (t 82)) 1 1 9,
  w (some 92) none (.fa 2 (t 91)) 1 1 10,
  w none none (.st 1 (t 92) (t 90)) 1 2 11])
 (s (o [p 4 (.mv (.c (.bool true)))])
 (EC.ret))))))))
 [.t 4]
/- glowworm/box.New -/
noncomputable def e36 : EFunc := EFunc.mk 3 false
 (s (o [p 0 (.mv (.c .nilp))])
 (s (o [p 1 (.build [.nils] []),
  p 2 (.box (t 1)),
  p 0 (.mv (t 2))])
 (EC.ret)))
 [.t 0]
/- (*glowworm/box.Box).Put -/
noncomputable def e37 : EFunc := EFunc.mk 29 false
 (s (o [p 3 (.box (t 1)),
  p 4 (.mv (ii 0))])
 (s (EC.block 0 (s (o [p 6 (.mv (t 0)),
  p 7 (.neq0 false 0 (t 6) (.c .nilp)),
  p 5 (.mv (t 7))])
 (EC.cond (t 5)
 (s (o [p 4 (.mv (ii 6))])
 (EC.ret))
 (s (o [p 9 (.ldn 4 (t 3)),
  p 10 (.pcall 41 [(t 9)]),
  p 11 (.un .not (t 10)),
  p 8 (.mv (t 11))])
 (EC.cond (t 8)
 (s (o [p 4 (.mv (ii 1))])
 (EC.ret))
 (s (o [p 13 (.mv (t 0)),
  p 14 (.nilchk (t 13)),
  p 15 (.fa 0 (t 14)),
  p 16 (.ld1 (t 15)),
  p 17 (.len (t 16)),
  p 18 (.ibin .geq (t 17) (ii 8)),
  p 12 (.mv (t 18))])
 (EC.cond (t 12)
 (s (o [p 4 (.mv (ii 3))])
 (EC.ret))
 (EC.skip))))))))
 (s (EC.draw 11 [w (some 19) none (.mv (t 0)) 0 1 0,
  w (some 20) none (.mv (t 0)) 0 0 1,
  w (some 21) none (.nilchk (t 20)) 0 0 2,
  w (some 22) none (.fa 0 (t 21)) 0 0 3,
  w (some 23) none (.ld1 (t 22)) 0 0 4,
  w (some 24) none (.ldn 4 (t 3)) 0 0 5,
  w (some 25) none (.bslice 4 1 [(.int .i64 0), (.int .i64 0), (.int .u32 0), (.str [])] [(0, 4, (t 24))]) 0 0 6,
  w (some 26) none (.app 4 40 (t 23) (t 25)) 0 1 7,
  w (some 27) none (.nilchk (t 19)) 1 1 8,
  w (some 28) none (.fa 0 (t 27)) 1 1 9,
  w none none (.st 1 (t 28) (t 26)) 1 2 10])
 (s (o [p 4 (.mv (ii 0))])
 (EC.ret)))))
 [.t 4]
/- (*glowworm/box.Box).Take -/
noncomputable def e38 : EFunc := EFunc.mk 22 false
 (s (o [p 2 (.new [(.int .i64 0), (.int .i64 0), (.int .u32 0), (.str [])]),
  p 3 (.mv (.c (.bool false)))])
 (s (o [p 7 (.mv (t 0)),
  p 8 (.call 55 [(t 7)]),
  p 6 (.mv (t 8)),
  p 9 (.ext (t 6) 0),
  p 10 (.ext (t 6) 1),
  p 4 (.new [(.int .i64 0), (.int .i64 0), (.int .u32 0), (.str [])]),
  q (.st 4 (t 4) (t 9)),
  p 5 (.mv (t 10))])
 (s (s (o [p 11 (.mv (t 5))])
 (EC.cond (t 11)
 (o [p 12 (.mv (t 0)),
  p 13 (.mv (t 0)),
  p 14 (.nilchk (t 13)),
  p 15 (.fa 0 (t 14)),
  p 16 (.ld1 (t 15)),
  p 17 (.slL 4 (t 16) (some (ii 1)) none none),
  p 18 (.nilchk (t 12)),
  p 19 (.fa 0 (t 18)),
  q (.st 1 (t 19) (t 17))])
 (EC.skip)))
 (s (o [p 20 (.ldn 4 (t 4)),
  p 21 (.mv (t 5)),
  q (.st 4 (t 2) (t 20)),
  p 3 (.mv (t 21))])
 (EC.ret)))))
 [.cn 2 4, .t 3]
/- glowworm/glowwormlaw8.Begun -/
noncomputable def e39 : EFunc := EFunc.mk 2 true
 (s (o [p 0 (.mv (.c (.bool false)))])
 (s (o [p 1 (.pcall 56 []),
  p 0 (.mv (t 1))])
 (EC.ret)))
 [.t 0]
/- (*glowworm/box.Box).Len -/
noncomputable def e40 : EFunc := EFunc.mk 10 false
 (s (o [p 2 (.mv (ii 0))])
 (s (s (o [p 3 (.mv (t 0)),
  p 4 (.neq0 false 0 (t 3) (.c .nilp))])
 (EC.cond (t 4)
 (s (o [p 2 (.mv (ii 0))])
 (EC.ret))
 (EC.skip)))
 (s (o [p 5 (.mv (t 0)),
  p 6 (.nilchk (t 5)),
  p 7 (.fa 0 (t 6)),
  p 8 (.ld1 (t 7)),
  p 9 (.len (t 8)),
  p 2 (.mv (t 9))])
 (EC.ret))))
 [.t 2]
/- glowworm/box.May -/
noncomputable def e41 : EFunc := EFunc.mk 72 true
 (s (o [p 1 (.box (t 0)),
  p 2 (.mv (.c (.bool false)))])
 (s (o [p 4 (.fa 0 (t 1)),
  p 5 (.ld1 (t 4)),
  p 6 (.build [(.int .i64 0), (.int .i64 0), (.int .u32 0), (.str [])] [(0, 1, (t 5))]),
  p 3 (.new [(.int .i64 0), (.int .i64 0), (.int .u32 0), (.str [])]),
  q (.st 4 (t 3) (t 6))])
 (s (s (o [p 7 (.fa 0 (t 1)),
  p 8 (.ld1 (t 7))])
 (EC.block 0 (s (o [p 10 (.ibin .eql (t 8) (ii 1)),
  p 9 (.mv (t 10))])
 (EC.cond (t 9)
 (s (o [p 11 (.fa 1 (t 1)),
  p 12 (.ld1 (t 11)),
  p 13 (.fa 1 (t 3)),
  q (.st 1 (t 13) (t 12))])
 (s (o [p 14 (.ldn 4 (t 1)),
  p 15 (.ldn 4 (t 3)),
  p 16 (.aeq false [1, 1, 1, 2] (t 14) (t 15)),
  p 17 (.mv (t 16)),
  w (some 18) (some (17, true)) (.fa 1 (t 1)) 0 0 0,
  w (some 19) (some (17, true)) (.ld1 (t 18)) 0 0 0,
  w (some 20) (some (17, true)) (.ibin .eql (t 19) (ii 1)) 0 0 0,
  w (some 21) (some (17, true)) (.mv (t 20)) 0 0 0,
  w (some 22) (some (21, false)) (.fa 1 (t 1)) 0 0 0,
  w (some 23) (some (21, false)) (.ld1 (t 22)) 0 0 0,
  w (some 24) (some (21, false)) (.ibin .eql (t 23) (ii 6)) 0 0 0,
  w (some 25) (some (17, true)) (.pick (t 21) (.c (.bool true)) (t 24)) 0 0 0,
  w (some 26) (some (17, true)) (.mv (t 25)) 0 0 0,
  w (some 27) (some (26, false)) (.fa 1 (t 1)) 0 0 0,
  w (some 28) (some (26, false)) (.ld1 (t 27)) 0 0 0,
  w (some 29) (some (26, false)) (.ibin .eql (t 28) (ii 8)) 0 0 0,
  w (some 30) (some (17, true)) (.pick (t 26) (.c (.bool true)) (t 29)) 0 0 0,
  p 31 (.pick (t 17) (t 30) (.c (.bool false))),
  p 2 (.mv (t 31))])
 (EC.ret)))
 (s (s (o [p 33 (.ibin .eql (t 8) (ii 2)),
  p 32 (.mv (t 33))])
 (EC.cond (t 32)
 (EC.skip)
 (o [p 34 (.ibin .eql (t 8) (ii 7)),
  p 32 (.mv (t 34))])))
 (EC.cond (t 32)
 (s (o [p 35 (.fa 2 (t 1)),
  p 36 (.ld1 (t 35)),
  p 37 (.fa 2 (t 3)),
  q (.st 1 (t 37) (t 36))])
 (s (o [p 38 (.ldn 4 (t 1)),
  p 39 (.ldn 4 (t 3)),
  p 40 (.aeq false [1, 1, 1, 2] (t 38) (t 39)),
  p 41 (.mv (t 40)),
  w (some 42) (some (41, true)) (.fa 2 (t 1)) 0 0 0,
  w (some 43) (some (41, true)) (.ld1 (t 42)) 0 0 0,
  w (some 44) (some (41, true)) (.ibin .neq (t 43) (.c (.int .u32 0))) 0 0 0,
  p 45 (.pick (t 41) (t 44) (.c (.bool false))),
  p 46 (.mv (t 45)),
  w (some 47) (some (46, true)) (.fa 2 (t 1)) 0 0 0,
  w (some 48) (some (46, true)) (.ld1 (t 47)) 0 0 0,
  w (some 49) (some (46, true)) (.ibin .neq (t 48) (.c (.int .u32 4294967295))) 0 0 0,
  p 50 (.pick (t 46) (t 49) (.c (.bool false))),
  p 2 (.mv (t 50))])
 (EC.ret)))
 (s (o [p 52 (.ibin .eql (t 8) (ii 3)),
  p 51 (.mv (t 52))])
 (EC.cond (t 51)
 (s (o [p 53 (.fa 3 (t 1)),
  p 54 (.ld1 (t 53)),
  p 55 (.fa 3 (t 3)),
  q (.st 1 (t 55) (t 54))])
 (s (o [p 56 (.ldn 4 (t 1)),
  p 57 (.ldn 4 (t 3)),
  p 58 (.aeq false [1, 1, 1, 2] (t 56) (t 57)),
  p 59 (.mv (t 58)),
  w (some 60) (some (59, true)) (.fa 3 (t 1)) 0 0 0,
  w (some 61) (some (59, true)) (.ld1 (t 60)) 0 0 0,
  w (some 62) (some (59, true)) (.lenS (t 61)) 0 0 0,
  w (some 63) (some (59, true)) (.ibin .leq (t 62) (ii 64)) 0 0 0,
  p 64 (.pick (t 59) (t 63) (.c (.bool false))),
  p 2 (.mv (t 64))])
 (EC.ret)))
 (s (s (o [p 66 (.ibin .eql (t 8) (ii 4)),
  p 65 (.mv (t 66))])
 (EC.cond (t 65)
 (EC.skip)
 (s (o [p 67 (.ibin .eql (t 8) (ii 5)),
  p 65 (.mv (t 67))])
 (EC.cond (t 65)
 (EC.skip)
 (o [p 68 (.ibin .eql (t 8) (ii 6)),
  p 65 (.mv (t 68))])))))
 (EC.cond (t 65)
 (s (o [p 69 (.ldn 4 (t 1)),
  p 70 (.ldn 4 (t 3)),
  p 71 (.aeq false [1, 1, 1, 2] (t 69) (t 70)),
  p 2 (.mv (t 71))])
 (EC.ret))
 (EC.skip)))))))))))
 (s (o [p 2 (.mv (.c (.bool false)))])
 (EC.ret)))))
 [.t 2]
/- (*glowworm/reply.Reply).Nick -/
noncomputable def e42 : EFunc := EFunc.mk 9 false
 (s (o [p 2 (.mv (.c (.str [])))])
 (s (s (o [p 3 (.mv (t 0)),
  p 4 (.neq0 false 0 (t 3) (.c .nilp))])
 (EC.cond (t 4)
 (s (o [p 2 (.mv (.c (.str [])))])
 (EC.ret))
 (EC.skip)))
 (s (o [p 5 (.mv (t 0)),
  p 6 (.nilchk (t 5)),
  p 7 (.fa 1 (t 6)),
  p 8 (.ld1 (t 7)),
  p 2 (.mv (t 8))])
 (EC.ret))))
 [.t 2]
/- glowworm/xid.May -/
noncomputable def e43 : EFunc := EFunc.mk 40 true
 (s (o [p 1 (.box (t 0)),
  p 2 (.mv (.c (.bool false)))])
 (s (o [p 4 (.fa 3 (t 1)),
  p 5 (.ld1 (t 4)),
  p 6 (.ibin .eql (t 5) (ii 1)),
  p 7 (.mv (t 6)),
  w (some 8) (some (7, false)) (.fa 3 (t 1)) 0 0 0,
  w (some 9) (some (7, false)) (.ld1 (t 8)) 0 0 0,
  w (some 10) (some (7, false)) (.ibin .eql (t 9) (ii 6)) 0 0 0,
  p 11 (.pick (t 7) (.c (.bool true)) (t 10)),
  p 12 (.mv (t 11)),
  w (some 13) (some (12, false)) (.fa 3 (t 1)) 0 0 0,
  w (some 14) (some (12, false)) (.ld1 (t 13)) 0 0 0,
  w (some 15) (some (12, false)) (.ibin .eql (t 14) (ii 8)) 0 0 0,
  p 16 (.pick (t 12) (.c (.bool true)) (t 15)),
  p 3 (.mv (t 16))])
 (s (o [p 17 (.fa 0 (t 1)),
  p 18 (.ld1 (t 17)),
  p 19 (.pcall 57 [(t 18)]),
  p 20 (.mv (t 19)),
  w (some 21) (some (20, true)) (.mv (t 3)) 0 0 0,
  p 22 (.pick (t 20) (t 21) (.c (.bool false))),
  p 23 (.mv (t 22)),
  w (some 24) (some (23, true)) (.fa 2 (t 1)) 0 0 0,
  w (some 25) (some (23, true)) (.ld1 (t 24)) 0 0 0,
  w (some 26) (some (23, true)) (.ibin .geq (t 25) (ii (-1))) 0 0 0,
  p 27 (.pick (t 23) (t 26) (.c (.bool false))),
  p 28 (.mv (t 27)),
  w (some 29) (some (28, true)) (.fa 2 (t 1)) 0 0 0,
  w (some 30) (some (28, true)) (.ld1 (t 29)) 0 0 0,
  w (some 31) (some (28, true)) (.fa 3 (t 1)) 0 0 0,
  w (some 32) (some (28, true)) (.ld1 (t 31)) 0 0 0,
  w (some 33) (some (28, true)) (.ibin .lss (t 30) (t 32)) 0 0 0,
  p 34 (.pick (t 28) (t 33) (.c (.bool false))),
  p 35 (.mv (t 34)),
  w (some 36) (some (35, true)) (.fa 5 (t 1)) 0 0 0,
  w (some 37) (some (35, true)) (.ld1 (t 36)) 0 0 0,
  w (some 38) (some (35, true)) (.pcall 45 [(t 37)]) 0 0 0,
  p 39 (.pick (t 35) (t 38) (.c (.bool false))),
  p 2 (.mv (t 39))])
 (EC.ret))))
 [.t 2]
/- glowworm/glowwormref4.MayNick -/
noncomputable def e44 : EFunc := EFunc.mk 29 true
 (s (o [p 2 (.mv (.c (.bool false)))])
 (s (s (o [p 7 (.mv (t 0)),
  p 3 (.mv (t 7))])
 (EC.block 0 (EC.loop (s (s (o [p 8 (.mv (t 3)),
  p 9 (.sbin .neq (t 8) (.c (.str [])))])
 (EC.cond (t 9)
 (EC.skip)
 (EC.exit 0)))
 (EC.block 1 (s (o [p 11 (.mv (t 3)),
  p 12 (.pcall 58 [(t 11)]),
  p 10 (.mv (t 12)),
  p 13 (.ext (t 10) 0),
  p 14 (.ext (t 10) 1),
  p 15 (.ext (t 10) 2),
  p 4 (.mv (t 13)),
  p 5 (.mv (t 14)),
  p 6 (.mv (t 15))])
 (s (s (o [p 16 (.mv (t 6)),
  p 17 (.un .not (t 16)),
  p 18 (.mv (t 17)),
  w (some 19) (some (18, false)) (.mv (t 4)) 0 0 0,
  w (some 20) (some (18, false)) (.pcall 59 [(t 19)]) 0 0 0,
  w (some 21) (some (18, false)) (.ibin .eql (t 20) (ii 0)) 0 0 0,
  p 22 (.pick (t 18) (.c (.bool true)) (t 21))])
 (EC.cond (t 22)
 (s (o [p 2 (.mv (.c (.bool false)))])
 (EC.ret))
 (EC.skip)))
 (o [p 23 (.mv (t 3)),
  p 24 (.mv (t 5)),
  p 25 (.slS (t 23) (some (t 24)) none),
  p 3 (.mv (t 25))]))))))))
 (s (o [p 26 (.mv (t 0)),
  p 27 (.lenS (t 26)),
  p 28 (.ibin .leq (t 27) (ii 20)),
  p 2 (.mv (t 28))])
 (EC.ret))))
 [.t 2]
/- glowworm/nick.May -/
noncomputable def e45 : EFunc := EFunc.mk 16 true
 (s (o [p 2 (.mv (.c (.bool false)))])
 (s (s (o [p 5 (.mv (t 0)),
  p 6 (.rngS (t 5))])
 (EC.block 0 (EC.loop (s (o [p 7 (.next (t 6)),
  p 8 (.ext (t 7) 0)])
 (s (EC.cond (t 8)
 (EC.skip)
 (EC.exit 0))
 (EC.block 1 (s (o [p 9 (.ext (t 7) 2),
  p 4 (.mv (t 9))])
 (s (o [p 10 (.mv (t 4)),
  p 11 (.pcall 60 [(t 10)]),
  p 12 (.ibin .eql (t 11) (ii 0))])
 (EC.cond (t 12)
 (s (o [p 2 (.mv (.c (.bool false)))])
 (EC.ret))
 (EC.skip))))))))))
 (s (o [p 13 (.mv (t 0)),
  p 14 (.lenS (t 13)),
  p 15 (.ibin .leq (t 14) (ii 20)),
  p 2 (.mv (t 15))])
 (EC.ret))))
 [.t 2]
/- glowworm/xid.Fresh -/
noncomputable def e46 : EFunc := EFunc.mk 36 false
 (s (o [p 4 (.mv (.c (.int .u32 0))),
  p 5 (.mv (ii 0))])
 (s (s (o [p 9 (.mv (t 0)),
  p 10 (.len (t 9)),
  p 11 (.mv (ii 0))])
 (EC.block 0 (EC.loop (s (o [p 12 (.ibin .lss (t 11) (t 10))])
 (s (EC.cond (t 12)
 (EC.skip)
 (EC.exit 0))
 (s (EC.block 1 (s (o [p 13 (.mv (t 11)),
  p 14 (.ia 1 (t 9) (t 11)),
  p 15 (.ld1 (t 14)),
  p 6 (.mv (t 13)),
  p 7 (.mv (t 15))])
 (s (o [p 16 (.mv (t 7)),
  p 17 (.pcall 57 [(t 16)]),
  p 18 (.mv (t 17)),
  w (some 19) (some (18, true)) (.mv (t 1)) 0 0 0,
  w (some 20) (some (18, true)) (.mv (t 7)) 0 0 0,
  w (some 21) (some (18, true)) (.call 61 [(t 19), (t 20)]) 0 0 0,
  w (some 22) (some (18, true)) (.un .not (t 21)) 0 0 0,
  p 23 (.pick (t 18) (t 22) (.c (.bool false)))])
 (EC.cond (t 23)
 (s (o [p 24 (.mv (t 7)),
  p 25 (.mv (t 6)),
  p 26 (.ibin .add (t 25) (ii 1)),
  p 4 (.mv (t 24)),
  p 5 (.mv (t 26))])
 (EC.ret))
 (EC.skip)))))
 (o [p 27 (.ibin .add (t 11) (ii 1)),
  p 11 (.mv (t 27))])))))))
 (s (o [p 8 (.mv (.c (.int .u32 1)))])
 (s (EC.block 2 (EC.loop (s (s (o [p 28 (.mv (t 1)),
  p 29 (.mv (t 8)),
  p 30 (.call 61 [(t 28), (t 29)])])
 (EC.cond (t 30)
 (EC.skip)
 (EC.exit 2)))
 (EC.block 3 (o [p 31 (.mv (t 8)),
  p 32 (.ibin .add (t 31) (.c (.int .u32 1))),
  p 8 (.mv (t 32))])))))
 (s (o [p 33 (.mv (t 8)),
  p 34 (.mv (t 0)),
  p 35 (.len (t 34)),
  p 4 (.mv (t 33)),
  p 5 (.mv (t 35))])
 (EC.ret))))))
 [.t 4, .t 5]
/- (*glowworm/reply.Reply).begins -/
noncomputable def e47 : EFunc := EFunc.mk 42 false
 (s (o [p 4 (.box (t 1)),
  p 6 (.mv (ii 0))])
 (s (EC.draw 22 [w (some 7) none (.mv (t 0)) 0 0 0,
  w (some 8) none (.mv (t 0)) 0 1 1,
  w (some 9) none (.mv (t 0)) 0 2 2,
  w (some 10) none (.mv (t 0)) 0 3 3,
  w (some 11) none (.fa 0 (t 4)) 0 1 4,
  w (some 12) none (.ld1 (t 11)) 0 1 5,
  w (some 13) none (.fa 3 (t 4)) 0 2 6,
  w (some 14) none (.ld1 (t 13)) 0 2 7,
  w (some 15) none (.fa 2 (t 4)) 0 3 8,
  w (some 16) none (.ld1 (t 15)) 0 3 9,
  w (some 17) none (.nilchk (t 7)) 0 0 10,
  w (some 18) none (.fa 2 (t 17)) 0 0 11,
  w none none (.st 1 (t 18) (.c (.bool true))) 0 1 12,
  w (some 19) none (.nilchk (t 8)) 1 1 13,
  w (some 20) none (.fa 3 (t 19)) 1 1 14,
  w none none (.st 1 (t 20) (t 12)) 1 2 15,
  w (some 21) none (.nilchk (t 9)) 2 2 16,
  w (some 22) none (.fa 4 (t 21)) 2 2 17,
  w none none (.st 1 (t 22) (t 14)) 2 3 18,
  w (some 23) none (.nilchk (t 10)) 3 3 19,
  w (some 24) none (.fa 5 (t 23)) 3 3 20,
  w none none (.st 1 (t 24) (t 16)) 3 4 21])
 (s (s (o [p 25 (.mv (t 2)),
  p 26 (.len (t 25)),
  p 27 (.ibin .eql (t 26) (ii 0))])
 (EC.cond (t 27)
 (s (o [p 6 (.mv (ii 0))])
 (EC.ret))
 (EC.skip)))
 (s (EC.draw 15 [w (some 28) none (.mv (t 0)) 0 0 0,
  w (some 29) none (.mv (t 2)) 0 0 1,
  w (some 30) none (.ia 1 (t 29) (ii 0)) 0 0 2,
  w (some 31) none (.ld1 (t 30)) 0 0 3,
  w (some 32) none (.fa 3 (t 4)) 0 0 4,
  w (some 33) none (.ld1 (t 32)) 0 0 5,
  w (some 34) none (.cvI .u32 (t 33)) 0 0 6,
  w (some 35) none (.ibin .rem (t 31) (t 34)) 0 0 7,
  w (some 36) none (.cvI .i64 (t 35)) 0 0 8,
  w (some 37) none (.fa 2 (t 4)) 0 0 9,
  w (some 38) none (.ld1 (t 37)) 0 0 10,
  w (some 39) none (.mx [(t 36), (t 38)]) 0 0 11,
  w (some 40) none (.nilchk (t 28)) 0 0 12,
  w (some 41) none (.fa 5 (t 40)) 0 0 13,
  w none none (.st 1 (t 41) (t 39)) 0 1 14])
 (s (o [p 6 (.mv (ii 1))])
 (EC.ret))))))
 [.t 6]
/- glowworm/glowwormref8.among -/
noncomputable def e48 : EFunc := EFunc.mk 18 false
 (s (o [p 4 (.mv (.c (.bool false)))])
 (s (s (o [p 5 (.mv (ii 0))])
 (EC.block 0 (EC.loop (s (s (o [p 6 (.mv (t 5)),
  p 7 (.mv (t 0)),
  p 8 (.len (t 7)),
  p 9 (.ibin .lss (t 6) (t 8))])
 (EC.cond (t 9)
 (EC.skip)
 (EC.exit 0)))
 (s (EC.block 1 (s (o [p 12 (.mv (t 0)),
  p 13 (.mv (t 5)),
  p 14 (.ia 1 (t 12) (t 13)),
  p 15 (.ld1 (t 14)),
  p 16 (.mv (t 1)),
  p 17 (.ibin .eql (t 15) (t 16))])
 (EC.cond (t 17)
 (s (o [p 4 (.mv (.c (.bool true)))])
 (EC.ret))
 (EC.skip))))
 (o [p 10 (.mv (t 5)),
  p 11 (.ibin .add (t 10) (ii 1)),
  p 5 (.mv (t 11))]))))))
 (s (o [p 4 (.mv (.c (.bool false)))])
 (EC.ret))))
 [.t 4]
/- (*glowworm/glowwormref16.Log).Add -/
noncomputable def e49 : EFunc := EFunc.mk 104 false
 (s (o [p 3 (.box (t 1)),
  p 4 (.mv (.c (.bool false)))])
 (s (s (o [p 6 (.ldn 6 (t 3)),
  p 7 (.pcall 13 [(t 6)]),
  p 8 (.un .not (t 7))])
 (EC.cond (t 8)
 (s (o [p 4 (.mv (.c (.bool false)))])
 (EC.ret))
 (EC.skip)))
 (s (s (EC.draw 7 [w (some 9) none (.fa 0 (t 3)) 0 0 0,
  w (some 10) none (.ld1 (t 9)) 0 0 1,
  w (some 11) none (.mv (t 0)) 0 0 2,
  w (some 12) none (.nilchk (t 11)) 0 0 3,
  w (some 13) none (.fa 0 (t 12)) 0 0 4,
  w (some 14) none (.ld1 (t 13)) 0 0 5,
  w (some 15) none (.ibin .eql (t 10) (t 14)) 0 0 6])
 (EC.cond (t 15)
 (s (EC.draw 12 [w (some 16) none (.mv (t 0)) 0 1 0,
  w (some 17) none (.mv (t 0)) 0 0 1,
  w (some 18) none (.nilchk (t 17)) 0 0 2,
  w (some 19) none (.fa 2 (t 18)) 0 0 3,
  w (some 20) none (.ld1 (t 19)) 0 0 4,
  w (some 21) none (.fa 0 (t 3)) 0 0 5,
  w (some 22) none (.ld1 (t 21)) 0 0 6,
  w (some 23) none (.bslice 1 1 [(.int .u32 0)] [(0, 1, (t 22))]) 0 0 7,
  w (some 24) none (.app 1 4 (t 20) (t 23)) 0 1 8,
  w (some 25) none (.nilchk (t 16)) 1 1 9,
  w (some 26) none (.fa 2 (t 25)) 1 1 10,
  w none none (.st 1 (t 26) (t 24)) 1 2 11])
 (s (o [p 4 (.mv (.c (.bool false)))])
 (EC.ret)))
 (EC.skip)))
 (s (s (o [p 5 (.mv (ii 0))])
 (EC.block 0 (EC.loop (s (s (o [p 27 (.mv (t 5)),
  p 28 (.mv (t 0)),
  p 29 (.nilchk (t 28)),
  p 30 (.fa 1 (t 29)),
  p 31 (.ld1 (t 30)),
  p 32 (.len (t 31)),
  p 33 (.ibin .lss (t 27) (t 32))])
 (EC.cond (t 33)
 (EC.skip)
 (EC.exit 0)))
 (s (EC.block 1 (s (EC.draw 11 [w (some 36) none (.mv (t 0)) 0 0 0,
  w (some 37) none (.nilchk (t 36)) 0 0 1,
  w (some 38) none (.fa 1 (t 37)) 0 0 2,
  w (some 39) none (.ld1 (t 38)) 0 0 3,
  w (some 40) none (.mv (t 5)) 0 0 4,
  w (some 41) none (.ia 3 (t 39) (t 40)) 0 0 5,
  w (some 42) none (.fa 0 (t 41)) 0 0 6,
  w (some 43) none (.ld1 (t 42)) 0 0 7,
  w (some 44) none (.fa 0 (t 3)) 0 0 8,
  w (some 45) none (.ld1 (t 44)) 0 0 9,
  w (some 46) none (.ibin .eql (t 43) (t 45)) 0 0 10])
 (EC.cond (t 46)
 (s (s (EC.draw 24 [w (some 47) none (.mv (t 0)) 0 0 0,
  w (some 48) none (.nilchk (t 47)) 0 0 1,
  w (some 49) none (.fa 1 (t 48)) 0 0 2,
  w (some 50) none (.ld1 (t 49)) 0 0 3,
  w (some 51) none (.mv (t 5)) 0 0 4,
  w (some 52) none (.ia 3 (t 50) (t 51)) 0 0 5,
  w (some 53) none (.fa 1 (t 52)) 0 0 6,
  w (some 54) none (.ld1 (t 53)) 0 0 7,
  w (some 55) none (.fa 5 (t 3)) 0 0 8,
  w (some 56) none (.ld1 (t 55)) 0 0 9,
  w (some 57) none (.sbin .eql (t 54) (t 56)) 0 0 10,
  w (some 58) none (.mv (t 57)) 0 0 11,
  w (some 59) (some (58, true)) (.mv (t 0)) 0 0 12,
  w (some 60) (some (58, true)) (.nilchk (t 59)) 0 0 13,
  w (some 61) (some (58, true)) (.fa 1 (t 60)) 0 0 14,
  w (some 62) (some (58, true)) (.ld1 (t 61)) 0 0 15,
  w (some 63) (some (58, true)) (.mv (t 5)) 0 0 16,
  w (some 64) (some (58, true)) (.ia 3 (t 62) (t 63)) 0 0 17,
  w (some 65) (some (58, true)) (.fa 2 (t 64)) 0 0 18,
  w (some 66) (some (58, true)) (.ld1 (t 65)) 0 0 19,
  w (some 67) (some (58, true)) (.fa 2 (t 3)) 0 0 20,
  w (some 68) (some (58, true)) (.ld1 (t 67)) 0 0 21,
  w (some 69) (some (58, true)) (.ibin .eql (t 66) (t 68)) 0 0 22,
  w (some 70) none (.pick (t 58) (t 69) (.c (.bool false))) 0 0 23])
 (EC.cond (t 70)
 (s (o [p 4 (.mv (.c (.bool true)))])
 (EC.ret))
 (EC.skip)))
 (s (EC.draw 12 [w (some 71) none (.mv (t 0)) 0 1 0,
  w (some 72) none (.mv (t 0)) 0 0 1,
  w (some 73) none (.nilchk (t 72)) 0 0 2,
  w (some 74) none (.fa 2 (t 73)) 0 0 3,
  w (some 75) none (.ld1 (t 74)) 0 0 4,
  w (some 76) none (.fa 0 (t 3)) 0 0 5,
  w (some 77) none (.ld1 (t 76)) 0 0 6,
  w (some 78) none (.bslice 1 1 [(.int .u32 0)] [(0, 1, (t 77))]) 0 0 7,
  w (some 79) none (.app 1 4 (t 75) (t 78)) 0 1 8,
  w (some 80) none (.nilchk (t 71)) 1 1 9,
  w (some 81) none (.fa 2 (t 80)) 1 1 10,
  w none none (.st 1 (t 81) (t 79)) 1 2 11])
 (s (o [p 4 (.mv (.c (.bool false)))])
 (EC.ret))))
 (EC.skip))))
 (o [p 34 (.mv (t 5)),
  p 35 (.ibin .add (t 34) (ii 1)),
  p 5 (.mv (t 35))]))))))
 (s (s (o [p 82 (.mv (t 0)),
  p 83 (.nilchk (t 82)),
  p 84 (.fa 1 (t 83)),
  p 85 (.ld1 (t 84)),
  p 86 (.len (t 85)),
  p 87 (.ibin .geq (t 86) (ii 16))])
 (EC.cond (t 87)
 (s (o [p 4 (.mv (.c (.bool false)))])
 (EC.ret))
 (EC.skip)))
 (s (EC.draw 17 [w (some 88) none (.mv (t 0)) 0 1 0,
  w (some 89) none (.mv (t 0)) 0 0 1,
  w (some 90) none (.nilchk (t 89)) 0 0 2,
  w (some 91) none (.fa 1 (t 90)) 0 0 3,
  w (some 92) none (.ld1 (t 91)) 0 0 4,
  w (some 93) none (.fa 0 (t 3)) 0 0 5,
  w (some 94) none (.ld1 (t 93)) 0 0 6,
  w (some 95) none (.fa 5 (t 3)) 0 0 7,
  w (some 96) none (.ld1 (t 95)) 0 0 8,
  w (some 97) none (.fa 2 (t 3)) 0 0 9,
  w (some 98) none (.ld1 (t 97)) 0 0 10,
  w (some 99) none (.build [(.int .u32 0), (.str []), (.int .i64 0)] [(0, 1, (t 94)), (1, 1, (t 96)), (2, 1, (t 98))]) 0 0 11,
  w (some 100) none (.bslice 3 1 [(.int .u32 0), (.str []), (.int .i64 0)] [(0, 3, (t 99))]) 0 0 12,
  w (some 101) none (.app 3 32 (t 92) (t 100)) 0 1 13,
  w (some 102) none (.nilchk (t 88)) 1 1 14,
  w (some 103) none (.fa 1 (t 102)) 1 1 15,
  w none none (.st 1 (t 103) (t 101)) 1 2 16])
 (s (o [p 4 (.mv (.c (.bool true)))])
 (EC.ret))))))))
 [.t 4]
/- slices.Clone[[]glowworm/api.Device,glowworm/api.Device] -/
noncomputable def e50 : EFunc := EFunc.mk 8 false
 (s (o [p 2 (.mv (.c .nils))])
 (s (s (o [p 3 (.mv (t 0)),
  p 4 (.neq0 false 1 (t 3) (.c .nils))])
 (EC.cond (t 4)
 (s (o [p 2 (.mv (.c .nils))])
 (EC.ret))
 (EC.skip)))
 (s (o [p 5 (.bslice 2 0 [] []),
  p 6 (.mv (t 0)),
  p 7 (.app 2 24 (t 5) (t 6)),
  p 2 (.mv (t 7))])
 (EC.ret))))
 [.t 2]
/- slices.Clone[[]uint32,uint32] -/
noncomputable def e51 : EFunc := EFunc.mk 8 false
 (s (o [p 2 (.mv (.c .nils))])
 (s (s (o [p 3 (.mv (t 0)),
  p 4 (.neq0 false 1 (t 3) (.c .nils))])
 (EC.cond (t 4)
 (s (o [p 2 (.mv (.c .nils))])
 (EC.ret))
 (EC.skip)))
 (s (o [p 5 (.bslice 1 0 [] []),
  p 6 (.mv (t 0)),
  p 7 (.app 1 4 (t 5) (t 6)),
  p 2 (.mv (t 7))])
 (EC.ret))))
 [.t 2]
/- slices.IndexFunc[[]glowworm/api.Device,glowworm/api.Device] -/
noncomputable def e52 : EFunc := EFunc.mk 19 false
 (s (o [p 4 (.mv (ii 0))])
 (s (s (o [p 6 (.mv (t 0)),
  p 7 (.len (t 6)),
  p 8 (.mv (ii 0))])
 (EC.block 0 (EC.loop (s (o [p 9 (.ibin .lss (t 8) (t 7))])
 (s (EC.cond (t 9)
 (EC.skip)
 (EC.exit 0))
 (s (EC.block 1 (s (o [p 10 (.mv (t 8)),
  p 5 (.mv (t 10))])
 (s (o [p 11 (.mv (t 1)),
  p 12 (.mv (t 0)),
  p 13 (.mv (t 5)),
  p 14 (.ia 2 (t 12) (t 13)),
  p 15 (.ldn 2 (t 14)),
  p 16 (.callv (t 11) [(t 15)])])
 (EC.cond (t 16)
 (s (o [p 17 (.mv (t 5)),
  p 4 (.mv (t 17))])
 (EC.ret))
 (EC.skip)))))
 (o [p 18 (.ibin .add (t 8) (ii 1)),
  p 8 (.mv (t 18))])))))))
 (s (o [p 4 (.mv (ii (-1)))])
 (EC.ret))))
 [.t 4]
/- (*glowworm/log.Log).Add$1 -/
noncomputable def e53 : EFunc := EFunc.mk 9 false
 (s (o [p 2 (.box (t 0)),
  p 3 (.mv (.c (.bool false)))])
 (s (o [p 4 (.fa 0 (t 2)),
  p 5 (.ld1 (t 4)),
  p 6 (.fa 0 (t 1)),
  p 7 (.ld1 (t 6)),
  p 8 (.ibin .eql (t 5) (t 7)),
  p 3 (.mv (t 8))])
 (EC.ret)))
 [.t 3]
/- (*glowworm/log.Log).clashes -/
noncomputable def e54 : EFunc := EFunc.mk 28 false
 (s (o [p 4 (.mv (.c (.bool false)))])
 (s (o [p 5 (.mv (t 0)),
  p 6 (.mv (t 0)),
  p 7 (.nilchk (t 6)),
  p 8 (.fa 3 (t 7)),
  p 9 (.ld1 (t 8)),
  p 10 (.mv (t 1)),
  p 11 (.bslice 1 1 [(.int .u32 0)] [(0, 1, (t 10))]),
  p 12 (.app 1 4 (t 9) (t 11)),
  p 13 (.nilchk (t 5)),
  p 14 (.fa 3 (t 13)),
  q (.st 1 (t 14) (t 12))])
 (s (o [p 15 (.mv (t 0)),
  p 16 (.nilchk (t 15)),
  p 17 (.fa 3 (t 16)),
  p 18 (.ld1 (t 17)),
  p 19 (.call 62 [(t 18)])])
 (s (o [p 20 (.mv (t 0)),
  p 21 (.mv (t 0)),
  p 22 (.nilchk (t 21)),
  p 23 (.fa 3 (t 22)),
  p 24 (.ld1 (t 23)),
  p 25 (.call 63 [(t 24)]),
  p 26 (.nilchk (t 20)),
  p 27 (.fa 3 (t 26)),
  q (.st 1 (t 27) (t 25))])
 (s (o [p 4 (.mv (.c (.bool false)))])
 (EC.ret))))))
 [.t 4]
/- (*glowworm/box.Box).First -/
noncomputable def e55 : EFunc := EFunc.mk 14 false
 (s (o [p 2 (.new [(.int .i64 0), (.int .i64 0), (.int .u32 0), (.str [])]),
  p 3 (.mv (.c (.bool false)))])
 (s (s (o [p 4 (.mv (t 0)),
  p 5 (.call 40 [(t 4)]),
  p 6 (.ibin .eql (t 5) (ii 0))])
 (EC.cond (t 6)
 (s (o [p 7 (.build [(.int .i64 0), (.int .i64 0), (.int .u32 0), (.str [])] []),
  q (.st 4 (t 2) (t 7)),
  p 3 (.mv (.c (.bool false)))])
 (EC.ret))
 (EC.skip)))
 (s (o [p 8 (.mv (t 0)),
  p 9 (.nilchk (t 8)),
  p 10 (.fa 0 (t 9)),
  p 11 (.ld1 (t 10)),
  p 12 (.ia 4 (t 11) (ii 0)),
  p 13 (.ldn 4 (t 12)),
  q (.st 4 (t 2) (t 13)),
  p 3 (.mv (.c (.bool true)))])
 (EC.ret))))
 [.cn 2 4, .t 3]
/- glowworm/glowwormlaw8.begun -/
noncomputable def e56 : EFunc := EFunc.mk 133 true
 (s (o [p 0 (.mv (.c (.bool false)))])
 (s (o [p 20 (.build [(.int .i64 0), (.int .i64 0), (.int .i64 0), (.int .i64 0), (.int .i64 0)] [(0, 1, (ii 3)), (1, 1, (ii 1)), (2, 1, (ii 127)), (3, 1, (ii 15)), (4, 1, (ii 6))]),
  p 1 (.new [(.int .i64 0), (.int .i64 0), (.int .i64 0), (.int .i64 0), (.int .i64 0)]),
  q (.st 5 (t 1) (t 20))])
 (s (o [p 22 (.ldn 5 (t 1)),
  p 23 (.pcall 64 [(t 22)]),
  p 21 (.mv (t 23)),
  p 24 (.ext (t 21) 0),
  p 25 (.ext (t 21) 1),
  p 2 (.mv (t 24)),
  p 3 (.mv (t 25))])
 (s (o [p 27 (.mv (t 2)),
  p 28 (.pcall 65 [(t 27)]),
  p 26 (.mv (t 28)),
  p 29 (.ext (t 26) 0),
  p 30 (.ext (t 26) 1),
  p 4 (.new [(.int .i64 0), (.int .i64 0), (.int .i64 0), (.int .i64 0), (.int .i64 0)]),
  q (.st 5 (t 4) (t 29)),
  p 5 (.mv (t 30))])
 (s (o [p 32 (.ldn 5 (t 1)),
  p 33 (.ldn 5 (t 1)),
  p 34 (.pcall 66 [(t 32), (t 33)]),
  p 31 (.mv (t 34)),
  p 35 (.ext (t 31) 0),
  p 36 (.ext (t 31) 1),
  p 6 (.new [(.int .i64 0), (.int .i64 0), (.int .i64 0), (.int .i64 0), (.int .i64 0)]),
  q (.st 5 (t 6) (t 35)),
  p 7 (.mv (t 36))])
 (s (o [p 37 (.build [(.int .u32 0), (.int .u32 0), (.int .i64 0), (.int .i64 0), (.bool false), (.str [])] [(0, 1, (.c (.int .u32 7))), (3, 1, (ii 6)), (2, 1, (ii (-1))), (5, 1, (.c (.str [110])))]),
  p 8 (.new [(.int .u32 0), (.int .u32 0), (.int .i64 0), (.int .i64 0), (.bool false), (.str [])]),
  q (.st 6 (t 8) (t 37))])
 (s (o [p 39 (.ldn 6 (t 8)),
  p 40 (.pcall 67 [(t 39)]),
  p 38 (.mv (t 40)),
  p 41 (.ext (t 38) 0),
  p 42 (.ext (t 38) 1),
  p 9 (.mv (t 41)),
  p 10 (.mv (t 42))])
 (s (o [p 44 (.mv (t 9)),
  p 45 (.pcall 68 [(t 44)]),
  p 43 (.mv (t 45)),
  p 46 (.ext (t 43) 0),
  p 47 (.ext (t 43) 1),
  p 11 (.new [(.int .u32 0), (.int .u32 0), (.int .i64 0), (.int .i64 0), (.bool false), (.str [])]),
  q (.st 6 (t 11) (t 46)),
  p 12 (.mv (t 47))])
 (s (o [p 48 (.build [(.int .i64 0), (.int .i64 0)] [(0, 1, (ii 2)), (1, 1, (ii 8))]),
  p 49 (.ldn 5 (t 1)),
  p 50 (.build [(.int .u32 0), (.int .u32 0), (.int .i64 0), (.int .i64 0), (.int .i64 0), (.int .i64 0), (.int .i64 0), (.int .i64 0), (.int .i64 0)] [(0, 1, (.c (.int .u32 7))), (1, 1, (.c (.int .u32 9))), (2, 2, (t 48)), (4, 5, (t 49))]),
  p 13 (.new [(.int .u32 0), (.int .u32 0), (.int .i64 0), (.int .i64 0), (.int .i64 0), (.int .i64 0), (.int .i64 0), (.int .i64 0), (.int .i64 0)]),
  q (.st 9 (t 13) (t 50))])
 (s (o [p 52 (.ldn 9 (t 13)),
  p 53 (.pcall 69 [(t 52)]),
  p 51 (.mv (t 53)),
  p 54 (.ext (t 51) 0),
  p 55 (.ext (t 51) 1),
  p 14 (.mv (t 54)),
  p 15 (.mv (t 55))])
 (s (o [p 57 (.mv (t 14)),
  p 58 (.pcall 70 [(t 57)]),
  p 56 (.mv (t 58)),
  p 59 (.ext (t 56) 0),
  p 60 (.ext (t 56) 1),
  p 16 (.new [(.int .u32 0), (.int .u32 0), (.int .i64 0), (.int .i64 0), (.int .i64 0), (.int .i64 0), (.int .i64 0), (.int .i64 0), (.int .i64 0)]),
  q (.st 9 (t 16) (t 59)),
  p 17 (.mv (t 60))])
 (s (o [p 62 (.bslice 1 3 [(.int .u32 0), (.int .u32 0), (.int .u32 0)] [(0, 1, (.c (.int .u32 0))), (1, 1, (.c (.int .u32 5))), (2, 1, (.c (.int .u32 6)))]),
  p 63 (.bslice 1 1 [(.int .u32 0)] [(0, 1, (.c (.int .u32 5)))]),
  p 64 (.call 46 [(t 62), (t 63)]),
  p 61 (.mv (t 64)),
  p 65 (.ext (t 61) 0),
  p 66 (.ext (t 61) 1),
  p 18 (.mv (t 65)),
  p 19 (.mv (t 66))])
 (s (o [p 67 (.pcall 71 []),
  p 68 (.mv (t 67)),
  w (some 69) (some (68, true)) (.mv (t 3)) 0 0 0,
  p 70 (.pick (t 68) (t 69) (.c (.bool false))),
  p 71 (.mv (t 70)),
  w (some 72) (some (71, true)) (.mv (t 5)) 0 0 0,
  p 73 (.pick (t 71) (t 72) (.c (.bool false))),
  p 74 (.mv (t 73)),
  w (some 75) (some (74, true)) (.ldn 5 (t 4)) 0 0 0,
  w (some 76) (some (74, true)) (.ldn 5 (t 1)) 0 0 0,
  w (some 77) (some (74, true)) (.aeq false [1, 1, 1, 1, 1] (t 75) (t 76)) 0 0 0,
  p 78 (.pick (t 74) (t 77) (.c (.bool false))),
  p 79 (.mv (t 78)),
  w (some 80) (some (79, true)) (.mv (t 7)) 0 0 0,
  p 81 (.pick (t 79) (t 80) (.c (.bool false))),
  p 82 (.mv (t 81)),
  w (some 83) (some (82, true)) (.ldn 5 (t 6)) 0 0 0,
  w (some 84) (some (82, true)) (.build [(.int .i64 0), (.int .i64 0), (.int .i64 0), (.int .i64 0), (.int .i64 0)] [(0, 1, (ii 64)), (1, 1, (ii 200)), (2, 1, (ii 7)), (3, 1, (ii 64)), (4, 1, (ii 1))]) 0 0 0,
  w (some 85) (some (82, true)) (.aeq false [1, 1, 1, 1, 1] (t 83) (t 84)) 0 0 0,
  p 86 (.pick (t 82) (t 85) (.c (.bool false))),
  p 87 (.mv (t 86)),
  w (some 88) (some (87, true)) (.mv (t 10)) 0 0 0,
  p 89 (.pick (t 87) (t 88) (.c (.bool false))),
  p 90 (.mv (t 89)),
  w (some 91) (some (90, true)) (.mv (t 12)) 0 0 0,
  p 92 (.pick (t 90) (t 91) (.c (.bool false))),
  p 93 (.mv (t 92)),
  w (some 94) (some (93, true)) (.ldn 6 (t 11)) 0 0 0,
  w (some 95) (some (93, true)) (.ldn 6 (t 8)) 0 0 0,
  w (some 96) (some (93, true)) (.aeq false [1, 1, 1, 1, 0, 2] (t 94) (t 95)) 0 0 0,
  p 97 (.pick (t 93) (t 96) (.c (.bool false))),
  p 98 (.mv (t 97)),
  w (some 99) (some (98, true)) (.mv (t 15)) 0 0 0,
  p 100 (.pick (t 98) (t 99) (.c (.bool false))),
  p 101 (.mv (t 100)),
  w (some 102) (some (101, true)) (.mv (t 17)) 0 0 0,
  p 103 (.pick (t 101) (t 102) (.c (.bool false))),
  p 104 (.mv (t 103)),
  w (some 105) (some (104, true)) (.ldn 9 (t 16)) 0 0 0,
  w (some 106) (some (104, true)) (.ldn 9 (t 13)) 0 0 0,
  w (some 107) (some (104, true)) (.aeq false [1, 1, 1, 1, 1, 1, 1, 1, 1] (t 105) (t 106)) 0 0 0,
  p 108 (.pick (t 104) (t 107) (.c (.bool false))),
  p 109 (.mv (t 108)),
  w (some 110) (some (109, true)) (.mv (t 18)) 0 0 0,
  w (some 111) (some (109, true)) (.ibin .eql (t 110) (.c (.int .u32 6))) 0 0 0,
  p 112 (.pick (t 109) (t 111) (.c (.bool false))),
  p 113 (.mv (t 112)),
  w (some 114) (some (113, true)) (.mv (t 19)) 0 0 0,
  w (some 115) (some (113, true)) (.ibin .eql (t 114) (ii 3)) 0 0 0,
  p 116 (.pick (t 113) (t 115) (.c (.bool false))),
  p 117 (.mv (t 116)),
  w (some 118) (some (117, true)) (.pcall 72 [(ii 6)]) 0 0 0,
  w (some 119) (some (117, true)) (.ibin .eql (t 118) (ii 2)) 0 0 0,
  p 120 (.pick (t 117) (t 119) (.c (.bool false))),
  p 121 (.mv (t 120)),
  w (some 122) (some (121, true)) (.pcall 73 [(ii 6)]) 0 0 0,
  w (some 123) (some (121, true)) (.ibin .eql (t 122) (ii 1)) 0 0 0,
  p 124 (.pick (t 121) (t 123) (.c (.bool false))),
  p 125 (.mv (t 124)),
  w (some 126) (some (125, true)) (.pcall 74 [(ii 33), (ii 32)]) 0 0 0,
  w (some 127) (some (125, true)) (.ibin .eql (t 126) (ii 2)) 0 0 0,
  p 128 (.pick (t 125) (t 127) (.c (.bool false))),
  p 129 (.mv (t 128)),
  w (some 130) (some (129, true)) (.pcall 75 [(ii 8), (ii 32)]) 0 0 0,
  w (some 131) (some (129, true)) (.ibin .eql (t 130) (ii 1)) 0 0 0,
  p 132 (.pick (t 129) (t 131) (.c (.bool false))),
  p 0 (.mv (t 132))])
 (EC.ret))))))))))))))
 [.t 0]
/- glowworm/xid.named -/
noncomputable def e57 : EFunc := EFunc.mk 9 true
 (s (o [p 2 (.mv (.c (.bool false)))])
 (s (o [p 3 (.mv (t 0)),
  p 4 (.ibin .neq (t 3) (.c (.int .u32 0))),
  p 5 (.mv (t 4)),
  w (some 6) (some (5, true)) (.mv (t 0)) 0 0 0,
  w (some 7) (some (5, true)) (.ibin .neq (t 6) (.c (.int .u32 4294967295))) 0 0 0,
  p 8 (.pick (t 5) (t 7) (.c (.bool false))),
  p 2 (.mv (t 8))])
 (EC.ret)))
 [.t 2]
/- glowworm/glowwormref4.rune1 -/
noncomputable def e58 : EFunc := EFunc.mk 91 true
 (s (o [p 2 (.mv (ii 0)),
  p 3 (.mv (ii 0)),
  p 4 (.mv (.c (.bool false)))])
 (s (o [p 10 (.mv (t 0)),
  p 11 (.ixS (t 10) (ii 0)),
  p 12 (.cvI .i64 (t 11)),
  p 5 (.mv (t 12))])
 (s (o [p 13 (.mv (t 5)),
  p 6 (.mv (ii 1)),
  p 7 (.mv (ii 0)),
  p 8 (.mv (t 13))])
 (s (EC.block 0 (s (o [p 15 (.mv (t 5)),
  p 16 (.ibin .lss (t 15) (ii 128)),
  p 14 (.mv (t 16))])
 (EC.cond (t 14)
 (s (o [p 17 (.mv (t 5)),
  p 2 (.mv (t 17)),
  p 3 (.mv (ii 1)),
  p 4 (.mv (.c (.bool true)))])
 (EC.ret))
 (s (o [p 19 (.mv (t 5)),
  p 20 (.ibin .geq (t 19) (ii 194)),
  p 21 (.mv (t 20)),
  w (some 22) (some (21, true)) (.mv (t 5)) 0 0 0,
  w (some 23) (some (21, true)) (.ibin .lss (t 22) (ii 224)) 0 0 0,
  p 24 (.pick (t 21) (t 23) (.c (.bool false))),
  p 18 (.mv (t 24))])
 (EC.cond (t 18)
 (o [p 25 (.mv (t 5)),
  p 26 (.ibin .sub (t 25) (ii 192)),
  p 6 (.mv (ii 2)),
  p 7 (.mv (ii 128)),
  p 8 (.mv (t 26))])
 (s (o [p 28 (.mv (t 5)),
  p 29 (.ibin .geq (t 28) (ii 224)),
  p 30 (.mv (t 29)),
  w (some 31) (some (30, true)) (.mv (t 5)) 0 0 0,
  w (some 32) (some (30, true)) (.ibin .lss (t 31) (ii 240)) 0 0 0,
  p 33 (.pick (t 30) (t 32) (.c (.bool false))),
  p 27 (.mv (t 33))])
 (EC.cond (t 27)
 (o [p 34 (.mv (t 5)),
  p 35 (.ibin .sub (t 34) (ii 224)),
  p 6 (.mv (ii 3)),
  p 7 (.mv (ii 2048)),
  p 8 (.mv (t 35))])
 (s (o [p 37 (.mv (t 5)),
  p 38 (.ibin .geq (t 37) (ii 240)),
  p 39 (.mv (t 38)),
  w (some 40) (some (39, true)) (.mv (t 5)) 0 0 0,
  w (some 41) (some (39, true)) (.ibin .lss (t 40) (ii 245)) 0 0 0,
  p 42 (.pick (t 39) (t 41) (.c (.bool false))),
  p 36 (.mv (t 42))])
 (EC.cond (t 36)
 (o [p 43 (.mv (t 5)),
  p 44 (.ibin .sub (t 43) (ii 240)),
  p 6 (.mv (ii 4)),
  p 7 (.mv (ii 65536)),
  p 8 (.mv (t 44))])
 (s (o [p 2 (.mv (ii 0)),
  p 3 (.mv (ii 1)),
  p 4 (.mv (.c (.bool false)))])
 (EC.ret)))))))))))
 (s (s (o [p 9 (.mv (ii 1))])
 (EC.block 1 (EC.loop (s (s (o [p 45 (.mv (t 9)),
  p 46 (.mv (t 6)),
  p 47 (.ibin .lss (t 45) (t 46))])
 (EC.cond (t 47)
 (EC.skip)
 (EC.exit 1)))
 (s (EC.block 2 (s (s (o [p 50 (.mv (t 9)),
  p 51 (.mv (t 0)),
  p 52 (.lenS (t 51)),
  p 53 (.ibin .geq (t 50) (t 52)),
  p 54 (.mv (t 53)),
  w (some 55) (some (54, false)) (.mv (t 0)) 0 0 0,
  w (some 56) (some (54, false)) (.mv (t 9)) 0 0 0,
  w (some 57) (some (54, false)) (.ixS (t 55) (t 56)) 0 0 0,
  w (some 58) (some (54, false)) (.ibin .lss (t 57) (.c (.int .u8 128))) 0 0 0,
  p 59 (.pick (t 54) (.c (.bool true)) (t 58)),
  p 60 (.mv (t 59)),
  w (some 61) (some (60, false)) (.mv (t 0)) 0 0 0,
  w (some 62) (some (60, false)) (.mv (t 9)) 0 0 0,
  w (some 63) (some (60, false)) (.ixS (t 61) (t 62)) 0 0 0,
  w (some 64) (some (60, false)) (.ibin .geq (t 63) (.c (.int .u8 192))) 0 0 0,
  p 65 (.pick (t 60) (.c (.bool true)) (t 64))])
 (EC.cond (t 65)
 (s (o [p 2 (.mv (ii 0)),
  p 3 (.mv (ii 1)),
  p 4 (.mv (.c (.bool false)))])
 (EC.ret))
 (EC.skip)))
 (o [p 66 (.mv (t 8)),
  p 67 (.ibin .mul (t 66) (ii 64)),
  p 68 (.mv (t 0)),
  p 69 (.mv (t 9)),
  p 70 (.ixS (t 68) (t 69)),
  p 71 (.cvI .i64 (t 70)),
  p 72 (.ibin .add (t 67) (t 71)),
  p 73 (.ibin .sub (t 72) (ii 128)),
  p 8 (.mv (t 73))])))
 (o [p 48 (.mv (t 9)),
  p 49 (.ibin .add (t 48) (ii 1)),
  p 9 (.mv (t 49))]))))))
 (s (s (o [p 74 (.mv (t 8)),
  p 75 (.mv (t 7)),
  p 76 (.ibin .lss (t 74) (t 75)),
  p 77 (.mv (t 76)),
  w (some 78) (some (77, false)) (.mv (t 8)) 0 0 0,
  w (some 79) (some (77, false)) (.ibin .geq (t 78) (ii 55296)) 0 0 0,
  w (some 80) (some (77, false)) (.mv (t 79)) 0 0 0,
  w (some 81) (some (80, true)) (.mv (t 8)) 0 0 0,
  w (some 82) (some (80, true)) (.ibin .lss (t 81) (ii 57344)) 0 0 0,
  w (some 83) (some (77, false)) (.pick (t 80) (t 82) (.c (.bool false))) 0 0 0,
  p 84 (.pick (t 77) (.c (.bool true)) (t 83)),
  p 85 (.mv (t 84)),
  w (some 86) (some (85, false)) (.mv (t 8)) 0 0 0,
  w (some 87) (some (85, false)) (.ibin .gtr (t 86) (ii 1114111)) 0 0 0,
  p 88 (.pick (t 85) (.c (.bool true)) (t 87))])
 (EC.cond (t 88)
 (s (o [p 2 (.mv (ii 0)),
  p 3 (.mv (ii 1)),
  p 4 (.mv (.c (.bool false)))])
 (EC.ret))
 (EC.skip)))
 (s (o [p 89 (.mv (t 8)),
  p 90 (.mv (t 6)),
  p 2 (.mv (t 89)),
  p 3 (.mv (t 90)),
  p 4 (.mv (.c (.bool true)))])
 (EC.ret))))))))
 [.t 2, .t 3, .t 4]
/- glowworm/glowwormref4.Kind -/
noncomputable def e59 : EFunc := EFunc.mk 51 true
 (s (o [p 2 (.mv (ii 0))])
 (s (EC.block 0 (s (o [p 4 (.mv (t 0)),
  p 5 (.ibin .geq (t 4) (ii 97)),
  p 6 (.mv (t 5)),
  w (some 7) (some (6, true)) (.mv (t 0)) 0 0 0,
  w (some 8) (some (6, true)) (.ibin .leq (t 7) (ii 122)) 0 0 0,
  p 9 (.pick (t 6) (t 8) (.c (.bool false))),
  p 10 (.mv (t 9)),
  w (some 11) (some (10, false)) (.mv (t 0)) 0 0 0,
  w (some 12) (some (10, false)) (.ibin .geq (t 11) (ii 65)) 0 0 0,
  w (some 13) (some (10, false)) (.mv (t 12)) 0 0 0,
  w (some 14) (some (13, true)) (.mv (t 0)) 0 0 0,
  w (some 15) (some (13, true)) (.ibin .leq (t 14) (ii 90)) 0 0 0,
  w (some 16) (some (10, false)) (.pick (t 13) (t 15) (.c (.bool false))) 0 0 0,
  p 17 (.pick (t 10) (.c (.bool true)) (t 16)),
  p 3 (.mv (t 17))])
 (EC.cond (t 3)
 (s (o [p 2 (.mv (ii 1))])
 (EC.ret))
 (s (o [p 19 (.mv (t 0)),
  p 20 (.ibin .geq (t 19) (ii 48)),
  p 21 (.mv (t 20)),
  w (some 22) (some (21, true)) (.mv (t 0)) 0 0 0,
  w (some 23) (some (21, true)) (.ibin .leq (t 22) (ii 57)) 0 0 0,
  p 24 (.pick (t 21) (t 23) (.c (.bool false))),
  p 18 (.mv (t 24))])
 (EC.cond (t 18)
 (s (o [p 2 (.mv (ii 2))])
 (EC.ret))
 (s (o [p 26 (.mv (t 0)),
  p 27 (.ibin .geq (t 26) (ii 32)),
  p 28 (.mv (t 27)),
  w (some 29) (some (28, true)) (.mv (t 0)) 0 0 0,
  w (some 30) (some (28, true)) (.ibin .leq (t 29) (ii 126)) 0 0 0,
  p 31 (.pick (t 28) (t 30) (.c (.bool false))),
  p 25 (.mv (t 31))])
 (EC.cond (t 25)
 (s (o [p 2 (.mv (ii 3))])
 (EC.ret))
 (s (o [p 33 (.mv (t 0)),
  p 34 (.ibin .geq (t 33) (ii 160)),
  p 35 (.mv (t 34)),
  w (some 36) (some (35, true)) (.mv (t 0)) 0 0 0,
  w (some 37) (some (35, true)) (.ibin .leq (t 36) (ii 1114111)) 0 0 0,
  p 38 (.pick (t 35) (t 37) (.c (.bool false))),
  p 39 (.mv (t 38)),
  w (some 40) (some (39, true)) (.mv (t 0)) 0 0 0,
  w (some 41) (some (39, true)) (.ibin .neq (t 40) (ii 65533)) 0 0 0,
  p 42 (.pick (t 39) (t 41) (.c (.bool false))),
  p 43 (.mv (t 42)),
  w (some 44) (some (43, true)) (.mv (t 0)) 0 0 0,
  w (some 45) (some (43, true)) (.ibin .lss (t 44) (ii 55296)) 0 0 0,
  w (some 46) (some (43, true)) (.mv (t 45)) 0 0 0,
  w (some 47) (some (46, false)) (.mv (t 0)) 0 0 0,
  w (some 48) (some (46, false)) (.ibin .gtr (t 47) (ii 57343)) 0 0 0,
  w (some 49) (some (43, true)) (.pick (t 46) (.c (.bool true)) (t 48)) 0 0 0,
  p 50 (.pick (t 43) (t 49) (.c (.bool false))),
  p 32 (.mv (t 50))])
 (EC.cond (t 32)
 (s (o [p 2 (.mv (ii 4))])
 (EC.ret))
 (EC.skip))))))))))
 (s (o [p 2 (.mv (ii 0))])
 (EC.ret))))
 [.t 2]
/- glowworm/nick.Kind -/
noncomputable def e60 : EFunc := EFunc.mk 43 true
 (s (o [p 2 (.mv (ii 0))])
 (s (EC.block 0 (s (o [p 4 (.mv (t 0)),
  p 5 (.ibin .geq (t 4) (.c (.int .i32 97))),
  p 6 (.mv (t 5)),
  w (some 7) (some (6, true)) (.mv (t 0)) 0 0 0,
  w (some 8) (some (6, true)) (.ibin .leq (t 7) (.c (.int .i32 122))) 0 0 0,
  p 9 (.pick (t 6) (t 8) (.c (.bool false))),
  p 10 (.mv (t 9)),
  w (some 11) (some (10, false)) (.mv (t 0)) 0 0 0,
  w (some 12) (some (10, false)) (.ibin .geq (t 11) (.c (.int .i32 65))) 0 0 0,
  w (some 13) (some (10, false)) (.mv (t 12)) 0 0 0,
  w (some 14) (some (13, true)) (.mv (t 0)) 0 0 0,
  w (some 15) (some (13, true)) (.ibin .leq (t 14) (.c (.int .i32 90))) 0 0 0,
  w (some 16) (some (10, false)) (.pick (t 13) (t 15) (.c (.bool false))) 0 0 0,
  p 17 (.pick (t 10) (.c (.bool true)) (t 16)),
  p 3 (.mv (t 17))])
 (EC.cond (t 3)
 (s (o [p 2 (.mv (ii 1))])
 (EC.ret))
 (s (o [p 19 (.mv (t 0)),
  p 20 (.ibin .geq (t 19) (.c (.int .i32 48))),
  p 21 (.mv (t 20)),
  w (some 22) (some (21, true)) (.mv (t 0)) 0 0 0,
  w (some 23) (some (21, true)) (.ibin .leq (t 22) (.c (.int .i32 57))) 0 0 0,
  p 24 (.pick (t 21) (t 23) (.c (.bool false))),
  p 18 (.mv (t 24))])
 (EC.cond (t 18)
 (s (o [p 2 (.mv (ii 2))])
 (EC.ret))
 (s (o [p 26 (.mv (t 0)),
  p 27 (.ibin .geq (t 26) (.c (.int .i32 32))),
  p 28 (.mv (t 27)),
  w (some 29) (some (28, true)) (.mv (t 0)) 0 0 0,
  w (some 30) (some (28, true)) (.ibin .leq (t 29) (.c (.int .i32 126))) 0 0 0,
  p 31 (.pick (t 28) (t 30) (.c (.bool false))),
  p 25 (.mv (t 31))])
 (EC.cond (t 25)
 (s (o [p 2 (.mv (ii 3))])
 (EC.ret))
 (s (o [p 33 (.mv (t 0)),
  p 34 (.ibin .geq (t 33) (.c (.int .i32 160))),
  p 35 (.mv (t 34)),
  w (some 36) (some (35, true)) (.mv (t 0)) 0 0 0,
  w (some 37) (some (35, true)) (.ibin .neq (t 36) (.c (.int .i32 65533))) 0 0 0,
  p 38 (.pick (t 35) (t 37) (.c (.bool false))),
  p 39 (.mv (t 38)),
  w (some 40) (some (39, true)) (.mv (t 0)) 0 0 0,
  w (some 41) (some (39, true)) (.pcall 76 [(t 40)]) 0 0 0,
  p 42 (.pick (t 39) (t 41) (.c (.bool false))),
  p 32 (.mv (t 42))])
 (EC.cond (t 32)
 (s (o [p 2 (.mv (ii 4))])
 (EC.ret))
 (EC.skip))))))))))
 (s (o [p 2 (.mv (ii 0))])
 (EC.ret))))
 [.t 2]
/- slices.Contains[[]uint32,uint32] -/
noncomputable def e61 : EFunc := EFunc.mk 9 false
 (s (o [p 4 (.mv (.c (.bool false)))])
 (s (o [p 5 (.mv (t 0)),
  p 6 (.mv (t 1)),
  p 7 (.call 77 [(t 5), (t 6)]),
  p 8 (.ibin .geq (t 7) (ii 0)),
  p 4 (.mv (t 8))])
 (EC.ret)))
 [.t 4]
/- slices.Sort[[]uint32,uint32] -/
noncomputable def e62 : EFunc := EFunc.mk 11 false
 (s (o [p 3 (.mv (t 0)),
  p 4 (.len (t 3)),
  p 2 (.mv (t 4))])
 (o [p 5 (.mv (t 0)),
  p 6 (.mv (t 2)),
  p 7 (.mv (t 2)),
  p 8 (.cvI .u64 (t 7)),
  p 9 (.pcall 79 [(t 8)]),
  p 10 (.call 78 [(t 5), (ii 0), (t 6), (t 9)])]))
 []
/- slices.Compact[[]uint32,uint32] -/
noncomputable def e63 : EFunc := EFunc.mk 61 false
 (s (o [p 2 (.mv (.c .nils))])
 (s (s (o [p 6 (.mv (t 0)),
  p 7 (.len (t 6)),
  p 8 (.ibin .lss (t 7) (ii 2))])
 (EC.cond (t 8)
 (s (o [p 9 (.mv (t 0)),
  p 2 (.mv (t 9))])
 (EC.ret))
 (EC.skip)))
 (s (s (o [p 3 (.mv (ii 1))])
 (EC.block 0 (EC.loop (s (s (o [p 10 (.mv (t 3)),
  p 11 (.mv (t 0)),
  p 12 (.len (t 11)),
  p 13 (.ibin .lss (t 10) (t 12))])
 (EC.cond (t 13)
 (EC.skip)
 (EC.exit 0)))
 (s (EC.block 1 (s (EC.draw 10 [w (some 16) none (.mv (t 0)) 0 0 0,
  w (some 17) none (.mv (t 3)) 0 0 1,
  w (some 18) none (.ia 1 (t 16) (t 17)) 0 0 2,
  w (some 19) none (.ld1 (t 18)) 0 0 3,
  w (some 20) none (.mv (t 0)) 0 0 4,
  w (some 21) none (.mv (t 3)) 0 0 5,
  w (some 22) none (.ibin .sub (t 21) (ii 1)) 0 0 6,
  w (some 23) none (.ia 1 (t 20) (t 22)) 0 0 7,
  w (some 24) none (.ld1 (t 23)) 0 0 8,
  w (some 25) none (.ibin .eql (t 19) (t 24)) 0 0 9])
 (EC.cond (t 25)
 (s (o [p 26 (.mv (t 0)),
  p 27 (.mv (t 3)),
  p 28 (.slL 1 (t 26) (some (t 27)) none none),
  p 4 (.mv (t 28))])
 (s (s (o [p 5 (.mv (ii 1))])
 (EC.block 2 (EC.loop (s (s (o [p 29 (.mv (t 5)),
  p 30 (.mv (t 4)),
  p 31 (.len (t 30)),
  p 32 (.ibin .lss (t 29) (t 31))])
 (EC.cond (t 32)
 (EC.skip)
 (EC.exit 2)))
 (s (EC.block 3 (s (EC.draw 10 [w (some 35) none (.mv (t 4)) 0 0 0,
  w (some 36) none (.mv (t 5)) 0 0 1,
  w (some 37) none (.ia 1 (t 35) (t 36)) 0 0 2,
  w (some 38) none (.ld1 (t 37)) 0 0 3,
  w (some 39) none (.mv (t 4)) 0 0 4,
  w (some 40) none (.mv (t 5)) 0 0 5,
  w (some 41) none (.ibin .sub (t 40) (ii 1)) 0 0 6,
  w (some 42) none (.ia 1 (t 39) (t 41)) 0 0 7,
  w (some 43) none (.ld1 (t 42)) 0 0 8,
  w (some 44) none (.ibin .neq (t 38) (t 43)) 0 0 9])
 (EC.cond (t 44)
 (s (o [p 45 (.mv (t 0)),
  p 46 (.mv (t 3)),
  p 47 (.mv (t 4)),
  p 48 (.mv (t 5)),
  p 49 (.ia 1 (t 47) (t 48)),
  p 50 (.ld1 (t 49)),
  p 51 (.ia 1 (t 45) (t 46)),
  q (.st 1 (t 51) (t 50))])
 (o [p 52 (.mv (t 3)),
  p 53 (.ibin .add (t 52) (ii 1)),
  p 3 (.mv (t 53))]))
 (EC.skip))))
 (o [p 33 (.mv (t 5)),
  p 34 (.ibin .add (t 33) (ii 1)),
  p 5 (.mv (t 34))]))))))
 (s (o [p 54 (.mv (t 0)),
  p 55 (.mv (t 3)),
  p 56 (.slL 1 (t 54) (some (t 55)) none none),
  q (.clr 1 [(.int .u32 0)] (t 56))])
 (s (o [p 57 (.mv (t 0)),
  p 58 (.mv (t 3)),
  p 59 (.slL 1 (t 57) none (some (t 58)) none),
  p 2 (.mv (t 59))])
 (EC.ret)))))
 (EC.skip))))
 (o [p 14 (.mv (t 3)),
  p 15 (.ibin .add (t 14) (ii 1)),
  p 3 (.mv (t 15))]))))))
 (s (o [p 60 (.mv (t 0)),
  p 2 (.mv (t 60))])
 (EC.ret)))))
 [.t 2]
/- glowworm/qos.Put -/
noncomputable def e64 : EFunc := EFunc.mk 42 true
 (s (o [p 1 (.box (t 0)),
  p 2 (.mv (.c (.str []))),
  p 3 (.mv (.c (.bool false)))])
 (s (s (o [p 7 (.ldn 5 (t 1)),
  p 8 (.pcall 80 [(t 7)]),
  p 9 (.un .not (t 8))])
 (EC.cond (t 9)
 (s (o [p 2 (.mv (.c (.str []))),
  p 3 (.mv (.c (.bool false)))])
 (EC.ret))
 (EC.skip)))
 (s (o [p 4 (.mv (.c .nils))])
 (s (s (o [p 10 (.fa 0 (t 1)),
  p 11 (.ld1 (t 10)),
  p 12 (.fa 1 (t 1)),
  p 13 (.ld1 (t 12)),
  p 14 (.fa 2 (t 1)),
  p 15 (.ld1 (t 14)),
  p 16 (.fa 3 (t 1)),
  p 17 (.ld1 (t 16)),
  p 18 (.fa 4 (t 1)),
  p 19 (.ld1 (t 18)),
  p 20 (.bslice 1 5 [(.int .i64 0), (.int .i64 0), (.int .i64 0), (.int .i64 0), (.int .i64 0)] [(0, 1, (t 11)), (1, 1, (t 13)), (2, 1, (t 15)), (3, 1, (t 17)), (4, 1, (t 19))]),
  p 21 (.len (t 20)),
  p 22 (.mv (ii 0))])
 (EC.block 0 (EC.loop (s (o [p 23 (.ibin .lss (t 22) (t 21))])
 (s (EC.cond (t 23)
 (EC.skip)
 (EC.exit 0))
 (s (EC.block 1 (s (o [p 24 (.mv (t 22)),
  p 25 (.ia 1 (t 20) (t 22)),
  p 26 (.ld1 (t 25)),
  p 5 (.mv (t 24)),
  p 6 (.mv (t 26))])
 (o [p 27 (.mv (t 4)),
  p 28 (.mv (t 5)),
  p 29 (.ibin .add (t 28) (ii 1)),
  p 30 (.mv (t 6)),
  p 31 (.cvI .u8 (t 30)),
  p 32 (.bslice 1 1 [(.int .u8 0)] [(0, 1, (t 31))]),
  p 33 (.cvBS (t 32)),
  p 34 (.build [(.int .i64 0), (.str [])] [(0, 1, (t 29)), (1, 1, (t 33))]),
  p 35 (.bslice 2 1 [(.int .i64 0), (.str [])] [(0, 2, (t 34))]),
  p 36 (.app 2 24 (t 27) (t 35)),
  p 4 (.mv (t 36))])))
 (o [p 37 (.ibin .add (t 22) (ii 1)),
  p 22 (.mv (t 37))])))))))
 (s (o [p 38 (.mv (t 4)),
  p 39 (.call 81 [(t 38)]),
  p 40 (.ext (t 39) 0),
  p 41 (.ext (t 39) 1),
  p 2 (.mv (t 40)),
  p 3 (.mv (t 41))])
 (EC.ret))))))
 [.t 2, .t 3]
/- glowworm/qos.Get -/
noncomputable def e65 : EFunc := EFunc.mk 62 true
 (s (o [p 2 (.new [(.int .i64 0), (.int .i64 0), (.int .i64 0), (.int .i64 0), (.int .i64 0)]),
  p 3 (.mv (.c (.bool false)))])
 (s (o [p 12 (.mv (t 0)),
  p 13 (.call 82 [(t 12)]),
  p 11 (.mv (t 13)),
  p 14 (.ext (t 11) 0),
  p 15 (.ext (t 11) 1),
  p 4 (.mv (t 14)),
  p 5 (.mv (t 15))])
 (s (o [p 6 (.new [(.int .i64 0), (.int .i64 0), (.int .i64 0), (.int .i64 0), (.int .i64 0)])])
 (s (s (o [p 16 (.mv (ii 0))])
 (EC.block 0 (EC.loop (s (o [p 17 (.ibin .lss (t 16) (ii 5))])
 (s (EC.cond (t 17)
 (EC.skip)
 (EC.exit 0))
 (s (EC.block 1 (s (o [p 18 (.mv (t 16)),
  p 7 (.mv (t 18))])
 (s (o [p 20 (.mv (t 4)),
  p 21 (.mv (t 7)),
  p 22 (.ibin .add (t 21) (ii 1)),
  p 23 (.call 83 [(t 20), (t 22)]),
  p 19 (.mv (t 23)),
  p 24 (.ext (t 19) 0),
  p 25 (.ext (t 19) 1),
  p 8 (.mv (t 24)),
  p 9 (.mv (t 25))])
 (s (o [p 26 (.mv (t 5)),
  p 27 (.mv (t 26)),
  w (some 28) (some (27, true)) (.mv (t 9)) 0 0 0,
  p 29 (.pick (t 27) (t 28) (.c (.bool false))),
  p 30 (.mv (t 29)),
  w (some 31) (some (30, true)) (.mv (t 8)) 0 0 0,
  w (some 32) (some (30, true)) (.lenS (t 31)) 0 0 0,
  w (some 33) (some (30, true)) (.ibin .eql (t 32) (ii 1)) 0 0 0,
  p 34 (.pick (t 30) (t 33) (.c (.bool false))),
  p 5 (.mv (t 34))])
 (s (o [p 35 (.mv (t 5))])
 (EC.cond (t 35)
 (o [p 36 (.mv (t 7)),
  p 37 (.mv (t 8)),
  p 38 (.ixS (t 37) (ii 0)),
  p 39 (.cvI .i64 (t 38)),
  p 40 (.iaA 1 5 (t 6) (t 36)),
  q (.st 1 (t 40) (t 39))])
 (EC.skip)))))))
 (o [p 41 (.ibin .add (t 16) (ii 1)),
  p 16 (.mv (t 41))])))))))
 (s (o [p 42 (.iaA 1 5 (t 6) (ii 0)),
  p 43 (.ld1 (t 42)),
  p 44 (.iaA 1 5 (t 6) (ii 1)),
  p 45 (.ld1 (t 44)),
  p 46 (.iaA 1 5 (t 6) (ii 2)),
  p 47 (.ld1 (t 46)),
  p 48 (.iaA 1 5 (t 6) (ii 3)),
  p 49 (.ld1 (t 48)),
  p 50 (.iaA 1 5 (t 6) (ii 4)),
  p 51 (.ld1 (t 50)),
  p 52 (.build [(.int .i64 0), (.int .i64 0), (.int .i64 0), (.int .i64 0), (.int .i64 0)] [(0, 1, (t 43)), (1, 1, (t 45)), (2, 1, (t 47)), (3, 1, (t 49)), (4, 1, (t 51))]),
  p 10 (.new [(.int .i64 0), (.int .i64 0), (.int .i64 0), (.int .i64 0), (.int .i64 0)]),
  q (.st 5 (t 10) (t 52))])
 (s (s (o [p 53 (.mv (t 5)),
  p 54 (.un .not (t 53)),
  p 55 (.mv (t 54)),
  w (some 56) (some (55, false)) (.ldn 5 (t 10)) 0 0 0,
  w (some 57) (some (55, false)) (.pcall 80 [(t 56)]) 0 0 0,
  w (some 58) (some (55, false)) (.un .not (t 57)) 0 0 0,
  p 59 (.pick (t 55) (.c (.bool true)) (t 58))])
 (EC.cond (t 59)
 (s (o [p 60 (.build [(.int .i64 0), (.int .i64 0), (.int .i64 0), (.int .i64 0), (.int .i64 0)] []),
  q (.st 5 (t 2) (t 60)),
  p 3 (.mv (.c (.bool false)))])
 (EC.ret))
 (EC.skip)))
 (s (o [p 61 (.ldn 5 (t 10)),
  q (.st 5 (t 2) (t 61)),
  p 3 (.mv (.c (.bool true)))])
 (EC.ret))))))))
 [.cn 2 5, .t 3]
/- glowworm/meet.Deal -/
noncomputable def e66 : EFunc := EFunc.mk 61 true
 (s (o [p 2 (.box (t 0)),
  p 3 (.box (t 1)),
  p 4 (.new [(.int .i64 0), (.int .i64 0), (.int .i64 0), (.int .i64 0), (.int .i64 0)]),
  p 5 (.mv (.c (.bool false)))])
 (s (s (o [p 7 (.ldn 5 (t 2)),
  p 8 (.pcall 80 [(t 7)]),
  p 9 (.un .not (t 8)),
  p 10 (.mv (t 9)),
  w (some 11) (some (10, false)) (.ldn 5 (t 3)) 0 0 0,
  w (some 12) (some (10, false)) (.pcall 80 [(t 11)]) 0 0 0,
  w (some 13) (some (10, false)) (.un .not (t 12)) 0 0 0,
  p 14 (.pick (t 10) (.c (.bool true)) (t 13))])
 (EC.cond (t 14)
 (s (o [p 15 (.build [(.int .i64 0), (.int .i64 0), (.int .i64 0), (.int .i64 0), (.int .i64 0)] []),
  q (.st 5 (t 4) (t 15)),
  p 5 (.mv (.c (.bool false)))])
 (EC.ret))
 (EC.skip)))
 (s (EC.draw 28 [w (some 16) none (.fa 0 (t 2)) 0 0 0,
  w (some 17) none (.ld1 (t 16)) 0 0 1,
  w (some 18) none (.fa 0 (t 3)) 0 0 2,
  w (some 19) none (.ld1 (t 18)) 0 0 3,
  w (some 20) none (.ibin .and (t 17) (t 19)) 0 0 4,
  w (some 21) none (.pcall 72 [(t 20)]) 0 0 5,
  w (some 22) none (.pcall 84 [(t 21)]) 0 0 6,
  w (some 23) none (.fa 1 (t 2)) 0 0 7,
  w (some 24) none (.ld1 (t 23)) 0 0 8,
  w (some 25) none (.fa 1 (t 3)) 0 0 9,
  w (some 26) none (.ld1 (t 25)) 0 0 10,
  w (some 27) none (.ibin .and (t 24) (t 26)) 0 0 11,
  w (some 28) none (.pcall 73 [(t 27)]) 0 0 12,
  w (some 29) none (.pcall 85 [(t 28)]) 0 0 13,
  w (some 30) none (.fa 3 (t 3)) 0 0 14,
  w (some 31) none (.ld1 (t 30)) 0 0 15,
  w (some 32) none (.pcall 72 [(t 31)]) 0 0 16,
  w (some 33) none (.pcall 86 [(t 32)]) 0 0 17,
  w (some 34) none (.fa 2 (t 3)) 0 0 18,
  w (some 35) none (.ld1 (t 34)) 0 0 19,
  w (some 36) none (.pcall 72 [(t 35)]) 0 0 20,
  w (some 37) none (.ibin .add (t 36) (ii 1)) 0 0 21,
  w (some 38) none (.fa 4 (t 3)) 0 0 22,
  w (some 39) none (.ld1 (t 38)) 0 0 23,
  w (some 40) none (.pcall 73 [(t 39)]) 0 0 24,
  w (some 41) none (.build [(.int .i64 0), (.int .i64 0), (.int .i64 0), (.int .i64 0), (.int .i64 0)] [(0, 1, (t 22)), (1, 1, (t 29)), (3, 1, (t 33)), (2, 1, (t 37)), (4, 1, (t 40))]) 0 0 25,
  w (some 6) none (.new [(.int .i64 0), (.int .i64 0), (.int .i64 0), (.int .i64 0), (.int .i64 0)]) 0 0 26,
  w none none (.st 5 (t 6) (t 41)) 0 1 27])
 (s (EC.block 0 (EC.loop (s (s (EC.draw 14 [w (some 42) none (.fa 2 (t 6)) 0 0 0,
  w (some 43) none (.ld1 (t 42)) 0 0 1,
  w (some 44) none (.ibin .gtr (t 43) (ii 1)) 0 0 2,
  w (some 45) none (.mv (t 44)) 0 0 3,
  w (some 46) (some (45, true)) (.fa 2 (t 6)) 0 0 4,
  w (some 47) (some (45, true)) (.ld1 (t 46)) 0 0 5,
  w (some 48) (some (45, true)) (.fa 3 (t 6)) 0 0 6,
  w (some 49) (some (45, true)) (.ld1 (t 48)) 0 0 7,
  w (some 50) (some (45, true)) (.fa 0 (t 6)) 0 0 8,
  w (some 51) (some (45, true)) (.ld1 (t 50)) 0 0 9,
  w (some 52) (some (45, true)) (.pcall 75 [(t 49), (t 51)]) 0 0 10,
  w (some 53) (some (45, true)) (.ibin .mul (t 47) (t 52)) 0 0 11,
  w (some 54) (some (45, true)) (.ibin .gtr (t 53) (ii 30)) 0 0 12,
  w (some 55) none (.pick (t 45) (t 54) (.c (.bool false))) 0 0 13])
 (EC.cond (t 55)
 (EC.skip)
 (EC.exit 0)))
 (EC.block 1 (o [p 56 (.fa 2 (t 6)),
  p 57 (.ld1 (t 56)),
  p 58 (.ibin .sub (t 57) (ii 1)),
  p 59 (.fa 2 (t 6)),
  q (.st 1 (t 59) (t 58))])))))
 (s (o [p 60 (.ldn 5 (t 6)),
  q (.st 5 (t 4) (t 60)),
  p 5 (.mv (.c (.bool true)))])
 (EC.ret))))))
 [.cn 4 5, .t 5]
/- glowworm/xid.Put -/
noncomputable def e67 : EFunc := EFunc.mk 31 true
 (s (o [p 1 (.box (t 0)),
  p 2 (.mv (.c (.str []))),
  p 3 (.mv (.c (.bool false)))])
 (s (s (o [p 6 (.ldn 6 (t 1)),
  p 7 (.pcall 43 [(t 6)]),
  p 8 (.un .not (t 7))])
 (EC.cond (t 8)
 (s (o [p 2 (.mv (.c (.str []))),
  p 3 (.mv (.c (.bool false)))])
 (EC.ret))
 (EC.skip)))
 (s (EC.draw 7 [w (some 9) none (.fa 0 (t 1)) 0 0 0,
  w (some 10) none (.ld1 (t 9)) 0 0 1,
  w (some 11) none (.call 87 [(.c .nils), (t 10)]) 0 1 2,
  w (some 12) none (.fa 1 (t 1)) 0 1 3,
  w (some 13) none (.ld1 (t 12)) 0 1 4,
  w (some 14) none (.call 87 [(t 11), (t 13)]) 1 2 5,
  w (some 4) none (.mv (t 14)) 2 2 6])
 (s (o [p 5 (.mv (.c (.int .u8 0)))])
 (s (s (o [p 15 (.fa 4 (t 1)),
  p 16 (.ld1 (t 15))])
 (EC.cond (t 16)
 (o [p 5 (.mv (.c (.int .u8 1)))])
 (EC.skip)))
 (s (EC.draw 16 [w (some 17) none (.mv (t 4)) 0 0 0,
  w (some 18) none (.mv (t 5)) 0 0 1,
  w (some 19) none (.fa 3 (t 1)) 0 0 2,
  w (some 20) none (.ld1 (t 19)) 0 0 3,
  w (some 21) none (.cvI .u8 (t 20)) 0 0 4,
  w (some 22) none (.fa 2 (t 1)) 0 0 5,
  w (some 23) none (.ld1 (t 22)) 0 0 6,
  w (some 24) none (.cvI .u8 (t 23)) 0 0 7,
  w (some 25) none (.bslice 1 3 [(.int .u8 0), (.int .u8 0), (.int .u8 0)] [(0, 1, (t 18)), (1, 1, (t 21)), (2, 1, (t 24))]) 0 0 8,
  w (some 26) none (.app 1 1 (t 17) (t 25)) 0 1 9,
  w (some 27) none (.cvBS (t 26)) 1 1 10,
  w (some 28) none (.fa 5 (t 1)) 0 1 11,
  w (some 29) none (.ld1 (t 28)) 0 1 12,
  w (some 30) none (.sbin .add (t 27) (t 29)) 1 1 13,
  w (some 2) none (.mv (t 30)) 1 1 14,
  w (some 3) none (.mv (.c (.bool true))) 1 1 15])
 (EC.ret)))))))
 [.t 2, .t 3]
/- glowworm/xid.Get -/
noncomputable def e68 : EFunc := EFunc.mk 46 true
 (s (o [p 2 (.new [(.int .u32 0), (.int .u32 0), (.int .i64 0), (.int .i64 0), (.bool false), (.str [])]),
  p 3 (.mv (.c (.bool false)))])
 (s (s (o [p 7 (.mv (t 0)),
  p 8 (.lenS (t 7)),
  p 9 (.ibin .lss (t 8) (ii 11))])
 (EC.cond (t 9)
 (s (o [p 10 (.build [(.int .u32 0), (.int .u32 0), (.int .i64 0), (.int .i64 0), (.bool false), (.str [])] []),
  q (.st 6 (t 2) (t 10)),
  p 3 (.mv (.c (.bool false)))])
 (EC.ret))
 (EC.skip)))
 (s (EC.draw 19 [w (some 11) none (.mv (t 0)) 0 0 0,
  w (some 12) none (.pcall 88 [(t 11)]) 0 0 1,
  w (some 13) none (.mv (t 0)) 0 0 2,
  w (some 14) none (.slS (t 13) (some (ii 4)) none) 0 0 3,
  w (some 15) none (.pcall 88 [(t 14)]) 0 0 4,
  w (some 16) none (.mv (t 0)) 0 0 5,
  w (some 17) none (.ixS (t 16) (ii 8)) 0 0 6,
  w (some 18) none (.ibin .eql (t 17) (.c (.int .u8 1))) 0 0 7,
  w (some 19) none (.mv (t 0)) 0 0 8,
  w (some 20) none (.ixS (t 19) (ii 9)) 0 0 9,
  w (some 21) none (.cvI .i64 (t 20)) 0 0 10,
  w (some 22) none (.mv (t 0)) 0 0 11,
  w (some 23) none (.ixS (t 22) (ii 10)) 0 0 12,
  w (some 24) none (.cvI .i64 (t 23)) 0 0 13,
  w (some 25) none (.mv (t 0)) 0 0 14,
  w (some 26) none (.slS (t 25) (some (ii 11)) none) 0 0 15,
  w (some 27) none (.build [(.int .u32 0), (.int .u32 0), (.int .i64 0), (.int .i64 0), (.bool false), (.str [])] [(0, 1, (t 12)), (1, 1, (t 15)), (4, 1, (t 18)), (3, 1, (t 21)), (2, 1, (t 24)), (5, 1, (t 26))]) 0 0 16,
  w (some 4) none (.new [(.int .u32 0), (.int .u32 0), (.int .i64 0), (.int .i64 0), (.bool false), (.str [])]) 0 0 17,
  w none none (.st 6 (t 4) (t 27)) 0 1 18])
 (s (s (o [p 28 (.fa 2 (t 4)),
  p 29 (.ld1 (t 28)),
  p 30 (.ibin .eql (t 29) (ii 255))])
 (EC.cond (t 30)
 (o [p 31 (.fa 2 (t 4)),
  q (.st 1 (t 31) (ii (-1)))])
 (EC.skip)))
 (s (s (o [p 33 (.ldn 6 (t 4)),
  p 34 (.pcall 67 [(t 33)]),
  p 32 (.mv (t 34)),
  p 35 (.ext (t 32) 0),
  p 36 (.ext (t 32) 1),
  p 5 (.mv (t 35)),
  p 6 (.mv (t 36))])
 (s (o [p 37 (.mv (t 6)),
  p 38 (.un .not (t 37)),
  p 39 (.mv (t 38)),
  w (some 40) (some (39, false)) (.mv (t 5)) 0 0 0,
  w (some 41) (some (39, false)) (.mv (t 0)) 0 0 0,
  w (some 42) (some (39, false)) (.sbin .neq (t 40) (t 41)) 0 0 0,
  p 43 (.pick (t 39) (.c (.bool true)) (t 42))])
 (EC.cond (t 43)
 (s (o [p 44 (.build [(.int .u32 0), (.int .u32 0), (.int .i64 0), (.int .i64 0), (.bool false), (.str [])] []),
  q (.st 6 (t 2) (t 44)),
  p 3 (.mv (.c (.bool false)))])
 (EC.ret))
 (EC.skip))))
 (s (o [p 45 (.ldn 6 (t 4)),
  q (.st 6 (t 2) (t 45)),
  p 3 (.mv (.c (.bool true)))])
 (EC.ret)))))))
 [.cn 2 6, .t 3]
/- glowworm/setup.Put -/
noncomputable def e69 : EFunc := EFunc.mk 40 true
 (s (o [p 1 (.box (t 0)),
  p 2 (.mv (.c (.str []))),
  p 3 (.mv (.c (.bool false)))])
 (s (o [p 8 (.fa 4 (t 1)),
  p 9 (.ldn 5 (t 8)),
  p 10 (.pcall 64 [(t 9)]),
  p 7 (.mv (t 10)),
  p 11 (.ext (t 7) 0),
  p 12 (.ext (t 7) 1),
  p 4 (.mv (t 11)),
  p 5 (.mv (t 12))])
 (s (s (o [p 13 (.mv (t 5)),
  p 14 (.un .not (t 13)),
  p 15 (.mv (t 14)),
  w (some 16) (some (15, false)) (.ldn 9 (t 1)) 0 0 0,
  w (some 17) (some (15, false)) (.pcall 89 [(t 16)]) 0 0 0,
  w (some 18) (some (15, false)) (.un .not (t 17)) 0 0 0,
  p 19 (.pick (t 15) (.c (.bool true)) (t 18))])
 (EC.cond (t 19)
 (s (o [p 2 (.mv (.c (.str []))),
  p 3 (.mv (.c (.bool false)))])
 (EC.ret))
 (EC.skip)))
 (s (EC.draw 7 [w (some 20) none (.fa 0 (t 1)) 0 0 0,
  w (some 21) none (.ld1 (t 20)) 0 0 1,
  w (some 22) none (.call 90 [(.c .nils), (t 21)]) 0 1 2,
  w (some 23) none (.fa 1 (t 1)) 0 1 3,
  w (some 24) none (.ld1 (t 23)) 0 1 4,
  w (some 25) none (.call 90 [(t 22), (t 24)]) 1 2 5,
  w (some 6) none (.mv (t 25)) 2 2 6])
 (s (o [p 26 (.mv (t 6)),
  p 27 (.fa 2 (t 1)),
  p 28 (.fa 0 (t 27)),
  p 29 (.ld1 (t 28)),
  p 30 (.cvI .u8 (t 29)),
  p 31 (.fa 2 (t 1)),
  p 32 (.fa 1 (t 31)),
  p 33 (.ld1 (t 32)),
  p 34 (.cvI .u8 (t 33)),
  p 35 (.bslice 1 2 [(.int .u8 0), (.int .u8 0)] [(0, 1, (t 30)), (1, 1, (t 34))]),
  p 36 (.app 1 1 (t 26) (t 35)),
  p 37 (.cvBS (t 36)),
  p 38 (.mv (t 4)),
  p 39 (.sbin .add (t 37) (t 38)),
  p 2 (.mv (t 39)),
  p 3 (.mv (.c (.bool true)))])
 (EC.ret))))))
 [.t 2, .t 3]
/- glowworm/setup.Get -/
noncomputable def e70 : EFunc := EFunc.mk 41 true
 (s (o [p 2 (.new [(.int .u32 0), (.int .u32 0), (.int .i64 0), (.int .i64 0), (.int .i64 0), (.int .i64 0), (.int .i64 0), (.int .i64 0), (.int .i64 0)]),
  p 3 (.mv (.c (.bool false)))])
 (s (s (o [p 7 (.mv (t 0)),
  p 8 (.lenS (t 7)),
  p 9 (.ibin .lss (t 8) (ii 10))])
 (EC.cond (t 9)
 (s (o [p 10 (.build [(.int .u32 0), (.int .u32 0), (.int .i64 0), (.int .i64 0), (.int .i64 0), (.int .i64 0), (.int .i64 0), (.int .i64 0), (.int .i64 0)] []),
  q (.st 9 (t 2) (t 10)),
  p 3 (.mv (.c (.bool false)))])
 (EC.ret))
 (EC.skip)))
 (s (EC.draw 15 [w (some 11) none (.mv (t 0)) 0 0 0,
  w (some 12) none (.pcall 91 [(t 11)]) 0 0 1,
  w (some 13) none (.mv (t 0)) 0 0 2,
  w (some 14) none (.slS (t 13) (some (ii 4)) none) 0 0 3,
  w (some 15) none (.pcall 91 [(t 14)]) 0 0 4,
  w (some 16) none (.mv (t 0)) 0 0 5,
  w (some 17) none (.ixS (t 16) (ii 8)) 0 0 6,
  w (some 18) none (.cvI .i64 (t 17)) 0 0 7,
  w (some 19) none (.mv (t 0)) 0 0 8,
  w (some 20) none (.ixS (t 19) (ii 9)) 0 0 9,
  w (some 21) none (.cvI .i64 (t 20)) 0 0 10,
  w (some 22) none (.build [(.int .i64 0), (.int .i64 0)] [(0, 1, (t 18)), (1, 1, (t 21))]) 0 0 11,
  w (some 23) none (.build [(.int .u32 0), (.int .u32 0), (.int .i64 0), (.int .i64 0), (.int .i64 0), (.int .i64 0), (.int .i64 0), (.int .i64 0), (.int .i64 0)] [(0, 1, (t 12)), (1, 1, (t 15)), (2, 2, (t 22))]) 0 0 12,
  w (some 4) none (.new [(.int .u32 0), (.int .u32 0), (.int .i64 0), (.int .i64 0), (.int .i64 0), (.int .i64 0), (.int .i64 0), (.int .i64 0), (.int .i64 0)]) 0 0 13,
  w none none (.st 9 (t 4) (t 23)) 0 1 14])
 (s (o [p 25 (.mv (t 0)),
  p 26 (.slS (t 25) (some (ii 10)) none),
  p 27 (.pcall 65 [(t 26)]),
  p 24 (.mv (t 27)),
  p 28 (.ext (t 24) 0),
  p 29 (.ext (t 24) 1),
  p 5 (.new [(.int .i64 0), (.int .i64 0), (.int .i64 0), (.int .i64 0), (.int .i64 0)]),
  q (.st 5 (t 5) (t 28)),
  p 6 (.mv (t 29))])
 (s (s (o [p 30 (.mv (t 6)),
  p 31 (.un .not (t 30)),
  p 32 (.mv (t 31)),
  w (some 33) (some (32, false)) (.ldn 9 (t 4)) 0 0 0,
  w (some 34) (some (32, false)) (.pcall 89 [(t 33)]) 0 0 0,
  w (some 35) (some (32, false)) (.un .not (t 34)) 0 0 0,
  p 36 (.pick (t 32) (.c (.bool true)) (t 35))])
 (EC.cond (t 36)
 (s (o [p 37 (.build [(.int .u32 0), (.int .u32 0), (.int .i64 0), (.int .i64 0), (.int .i64 0), (.int .i64 0), (.int .i64 0), (.int .i64 0), (.int .i64 0)] []),
  q (.st 9 (t 2) (t 37)),
  p 3 (.mv (.c (.bool false)))])
 (EC.ret))
 (EC.skip)))
 (s (o [p 38 (.ldn 5 (t 5)),
  p 39 (.fa 4 (t 4)),
  q (.st 5 (t 39) (t 38))])
 (s (o [p 40 (.ldn 9 (t 4)),
  q (.st 9 (t 2) (t 40)),
  p 3 (.mv (.c (.bool true)))])
 (EC.ret))))))))
 [.cn 2 9, .t 3]
/- glowworm/glowwormlaw4.Begun -/
noncomputable def e71 : EFunc := EFunc.mk 2 true
 (s (o [p 0 (.mv (.c (.bool false)))])
 (s (o [p 1 (.pcall 92 []),
  p 0 (.mv (t 1))])
 (EC.ret)))
 [.t 0]
/- glowworm/qos.High -/
noncomputable def e72 : EFunc := EFunc.mk 8 true
 (s (o [p 2 (.mv (ii 0))])
 (s (o [p 3 (.mv (t 0)),
  p 4 (.ibin .and (t 3) (ii 65535)),
  p 5 (.cvI .u16 (t 4)),
  p 6 (.pcall 93 [(t 5)]),
  p 7 (.ibin .sub (t 6) (ii 1)),
  p 2 (.mv (t 7))])
 (EC.ret)))
 [.t 2]
/- glowworm/qos.Low -/
noncomputable def e73 : EFunc := EFunc.mk 10 true
 (s (o [p 2 (.mv (ii 0))])
 (s (s (o [p 3 (.mv (t 0)),
  p 4 (.ibin .and (t 3) (ii 65535)),
  p 5 (.ibin .eql (t 4) (ii 0))])
 (EC.cond (t 5)
 (s (o [p 2 (.mv (ii (-1)))])
 (EC.ret))
 (EC.skip)))
 (s (o [p 6 (.mv (t 0)),
  p 7 (.ibin .and (t 6) (ii 65535)),
  p 8 (.cvI .u16 (t 7)),
  p 9 (.pcall 94 [(t 8)]),
  p 2 (.mv (t 9))])
 (EC.ret))))
 [.t 2]
/- glowworm/qos.Ticks -/
noncomputable def e74 : EFunc := EFunc.mk 16 true
 (s (o [p 4 (.mv (ii 0))])
 (s (s (o [p 5 (.mv (t 0)),
  p 6 (.ibin .lss (t 5) (ii 1)),
  p 7 (.mv (t 6)),
  w (some 8) (some (7, false)) (.mv (t 1)) 0 0 0,
  w (some 9) (some (7, false)) (.ibin .lss (t 8) (ii 1)) 0 0 0,
  p 10 (.pick (t 7) (.c (.bool true)) (t 9))])
 (EC.cond (t 10)
 (s (o [p 4 (.mv (ii 0))])
 (EC.ret))
 (EC.skip)))
 (s (o [p 11 (.mv (t 0)),
  p 12 (.ibin .sub (t 11) (ii 1)),
  p 13 (.mv (t 1)),
  p 14 (.ibin .quo (t 12) (t 13)),
  p 15 (.ibin .add (t 14) (ii 1)),
  p 4 (.mv (t 15))])
 (EC.ret))))
 [.t 4]
/- glowworm/meet.Frame -/
noncomputable def e75 : EFunc := EFunc.mk 11 true
 (s (o [p 4 (.mv (ii 0))])
 (s (o [p 5 (.mv (t 0)),
  p 6 (.ibin .add (t 5) (ii 5)),
  p 7 (.ibin .mul (ii 2) (t 6)),
  p 8 (.ibin .add (t 7) (ii 2)),
  p 9 (.mv (t 1)),
  p 10 (.pcall 74 [(t 8), (t 9)]),
  p 4 (.mv (t 10))])
 (EC.ret)))
 [.t 4]
/- unicode/utf8.ValidRune -/
noncomputable def e76 : EFunc := EFunc.mk 17 true
 (s (o [p 2 (.mv (.c (.bool false)))])
 (s (EC.block 0 (s (o [p 4 (.mv (t 0)),
  p 5 (.ibin .leq (.c (.int .i32 0)) (t 4)),
  p 6 (.mv (t 5)),
  w (some 7) (some (6, true)) (.mv (t 0)) 0 0 0,
  w (some 8) (some (6, true)) (.ibin .lss (t 7) (.c (.int .i32 55296))) 0 0 0,
  p 9 (.pick (t 6) (t 8) (.c (.bool false))),
  p 3 (.mv (t 9))])
 (EC.cond (t 3)
 (s (o [p 2 (.mv (.c (.bool true)))])
 (EC.ret))
 (s (o [p 11 (.mv (t 0)),
  p 12 (.ibin .lss (.c (.int .i32 57343)) (t 11)),
  p 13 (.mv (t 12)),
  w (some 14) (some (13, true)) (.mv (t 0)) 0 0 0,
  w (some 15) (some (13, true)) (.ibin .leq (t 14) (.c (.int .i32 1114111))) 0 0 0,
  p 16 (.pick (t 13) (t 15) (.c (.bool false))),
  p 10 (.mv (t 16))])
 (EC.cond (t 10)
 (s (o [p 2 (.mv (.c (.bool true)))])
 (EC.ret))
 (EC.skip))))))
 (s (o [p 2 (.mv (.c (.bool false)))])
 (EC.ret))))
 [.t 2]
/- slices.Index[[]uint32,uint32] -/
noncomputable def e77 : EFunc := EFunc.mk 19 false
 (s (o [p 4 (.mv (ii 0))])
 (s (s (o [p 6 (.mv (t 0)),
  p 7 (.len (t 6)),
  p 8 (.mv (ii 0))])
 (EC.block 0 (EC.loop (s (o [p 9 (.ibin .lss (t 8) (t 7))])
 (s (EC.cond (t 9)
 (EC.skip)
 (EC.exit 0))
 (s (EC.block 1 (s (o [p 10 (.mv (t 8)),
  p 5 (.mv (t 10))])
 (s (o [p 11 (.mv (t 1)),
  p 12 (.mv (t 0)),
  p 13 (.mv (t 5)),
  p 14 (.ia 1 (t 12) (t 13)),
  p 15 (.ld1 (t 14)),
  p 16 (.ibin .eql (t 11) (t 15))])
 (EC.cond (t 16)
 (s (o [p 17 (.mv (t 5)),
  p 4 (.mv (t 17))])
 (EC.ret))
 (EC.skip)))))
 (o [p 18 (.ibin .add (t 8) (ii 1)),
  p 8 (.mv (t 18))])))))))
 (s (o [p 4 (.mv (ii (-1)))])
 (EC.ret))))
 [.t 4]
/- slices.pdqsortOrdered[uint32] -/
noncomputable def e78 : EFunc := EFunc.mk 134 false
 (s (o [p 8 (.mv (.c (.bool true)))])
 (s (o [p 9 (.mv (.c (.bool true)))])
 (EC.block 0 (EC.loop (EC.block 1 (s (o [p 19 (.mv (t 2)),
  p 20 (.mv (t 1)),
  p 21 (.ibin .sub (t 19) (t 20)),
  p 10 (.mv (t 21))])
 (s (s (o [p 22 (.mv (t 10)),
  p 23 (.ibin .leq (t 22) (ii 12))])
 (EC.cond (t 23)
 (s (o [p 24 (.mv (t 0)),
  p 25 (.mv (t 1)),
  p 26 (.mv (t 2)),
  p 27 (.call 95 [(t 24), (t 25), (t 26)])])
 (EC.ret))
 (EC.skip)))
 (s (s (o [p 28 (.mv (t 3)),
  p 29 (.ibin .eql (t 28) (ii 0))])
 (EC.cond (t 29)
 (s (o [p 30 (.mv (t 0)),
  p 31 (.mv (t 1)),
  p 32 (.mv (t 2)),
  p 33 (.call 96 [(t 30), (t 31), (t 32)])])
 (EC.ret))
 (EC.skip)))
 (s (s (o [p 34 (.mv (t 8)),
  p 35 (.un .not (t 34))])
 (EC.cond (t 35)
 (s (o [p 36 (.mv (t 0)),
  p 37 (.mv (t 1)),
  p 38 (.mv (t 2)),
  p 39 (.call 97 [(t 36), (t 37), (t 38)])])
 (o [p 40 (.mv (t 3)),
  p 41 (.ibin .sub (t 40) (ii 1)),
  p 3 (.mv (t 41))]))
 (EC.skip)))
 (s (o [p 43 (.mv (t 0)),
  p 44 (.mv (t 1)),
  p 45 (.mv (t 2)),
  p 46 (.call 98 [(t 43), (t 44), (t 45)]),
  p 42 (.mv (t 46)),
  p 47 (.ext (t 42) 0),
  p 48 (.ext (t 42) 1),
  p 11 (.mv (t 47)),
  p 12 (.mv (t 48))])
 (s (s (o [p 49 (.mv (t 12)),
  p 50 (.ibin .eql (t 49) (ii 2))])
 (EC.cond (t 50)
 (s (o [p 51 (.mv (t 0)),
  p 52 (.mv (t 1)),
  p 53 (.mv (t 2)),
  p 54 (.call 99 [(t 51), (t 52), (t 53)])])
 (s (o [p 55 (.mv (t 2)),
  p 56 (.ibin .sub (t 55) (ii 1)),
  p 57 (.mv (t 11)),
  p 58 (.mv (t 1)),
  p 59 (.ibin .sub (t 57) (t 58)),
  p 60 (.ibin .sub (t 56) (t 59)),
  p 11 (.mv (t 60))])
 (o [p 12 (.mv (ii 1))])))
 (EC.skip)))
 (s (s (o [p 61 (.mv (t 8)),
  p 62 (.mv (t 61)),
  w (some 63) (some (62, true)) (.mv (t 9)) 0 0 0,
  p 64 (.pick (t 62) (t 63) (.c (.bool false))),
  p 65 (.mv (t 64)),
  w (some 66) (some (65, true)) (.mv (t 12)) 0 0 0,
  w (some 67) (some (65, true)) (.ibin .eql (t 66) (ii 1)) 0 0 0,
  p 68 (.pick (t 65) (t 67) (.c (.bool false)))])
 (EC.cond (t 68)
 (s (o [p 69 (.mv (t 0)),
  p 70 (.mv (t 1)),
  p 71 (.mv (t 2)),
  p 72 (.call 100 [(t 69), (t 70), (t 71)])])
 (EC.cond (t 72)
 (EC.ret)
 (EC.skip)))
 (EC.skip)))
 (s (s (EC.draw 15 [w (some 73) none (.mv (t 1)) 0 0 0,
  w (some 74) none (.ibin .gtr (t 73) (ii 0)) 0 0 1,
  w (some 75) none (.mv (t 74)) 0 0 2,
  w (some 76) (some (75, true)) (.mv (t 0)) 0 0 3,
  w (some 77) (some (75, true)) (.mv (t 1)) 0 0 4,
  w (some 78) (some (75, true)) (.ibin .sub (t 77) (ii 1)) 0 0 5,
  w (some 79) (some (75, true)) (.ia 1 (t 76) (t 78)) 0 0 6,
  w (some 80) (some (75, true)) (.ld1 (t 79)) 0 0 7,
  w (some 81) (some (75, true)) (.mv (t 0)) 0 0 8,
  w (some 82) (some (75, true)) (.mv (t 11)) 0 0 9,
  w (some 83) (some (75, true)) (.ia 1 (t 81) (t 82)) 0 0 10,
  w (some 84) (some (75, true)) (.ld1 (t 83)) 0 0 11,
  w (some 85) (some (75, true)) (.pcall 101 [(t 80), (t 84)]) 0 0 12,
  w (some 86) (some (75, true)) (.un .not (t 85)) 0 0 13,
  w (some 87) none (.pick (t 75) (t 86) (.c (.bool false))) 0 0 14])
 (EC.cond (t 87)
 (s (o [p 88 (.mv (t 0)),
  p 89 (.mv (t 1)),
  p 90 (.mv (t 2)),
  p 91 (.mv (t 11)),
  p 92 (.call 102 [(t 88), (t 89), (t 90), (t 91)]),
  p 13 (.mv (t 92))])
 (s (o [p 93 (.mv (t 13)),
  p 1 (.mv (t 93))])
 (EC.exit 1)))
 (EC.skip)))
 (s (o [p 95 (.mv (t 0)),
  p 96 (.mv (t 1)),
  p 97 (.mv (t 2)),
  p 98 (.mv (t 11)),
  p 99 (.call 103 [(t 95), (t 96), (t 97), (t 98)]),
  p 94 (.mv (t 99)),
  p 100 (.ext (t 94) 0),
  p 101 (.ext (t 94) 1),
  p 14 (.mv (t 100)),
  p 15 (.mv (t 101))])
 (s (o [p 102 (.mv (t 15)),
  p 9 (.mv (t 102))])
 (s (o [p 103 (.mv (t 14)),
  p 104 (.mv (t 1)),
  p 105 (.ibin .sub (t 103) (t 104)),
  p 106 (.mv (t 2)),
  p 107 (.mv (t 14)),
  p 108 (.ibin .sub (t 106) (t 107)),
  p 16 (.mv (t 105)),
  p 17 (.mv (t 108))])
 (s (o [p 109 (.mv (t 10)),
  p 110 (.ibin .quo (t 109) (ii 8)),
  p 18 (.mv (t 110))])
 (s (o [p 111 (.mv (t 16)),
  p 112 (.mv (t 17)),
  p 113 (.ibin .lss (t 111) (t 112))])
 (EC.cond (t 113)
 (s (o [p 114 (.mv (t 16)),
  p 115 (.mv (t 18)),
  p 116 (.ibin .geq (t 114) (t 115)),
  p 8 (.mv (t 116))])
 (s (o [p 117 (.mv (t 0)),
  p 118 (.mv (t 1)),
  p 119 (.mv (t 14)),
  p 120 (.mv (t 3)),
  p 121 (.call 78 [(t 117), (t 118), (t 119), (t 120)])])
 (o [p 122 (.mv (t 14)),
  p 123 (.ibin .add (t 122) (ii 1)),
  p 1 (.mv (t 123))])))
 (s (o [p 124 (.mv (t 17)),
  p 125 (.mv (t 18)),
  p 126 (.ibin .geq (t 124) (t 125)),
  p 8 (.mv (t 126))])
 (s (o [p 127 (.mv (t 0)),
  p 128 (.mv (t 14)),
  p 129 (.ibin .add (t 128) (ii 1)),
  p 130 (.mv (t 2)),
  p 131 (.mv (t 3)),
  p 132 (.call 78 [(t 127), (t 129), (t 130), (t 131)])])
 (o [p 133 (.mv (t 14)),
  p 2 (.mv (t 133))]))))))))))))))))))))))
 []
/- math/bits.Len -/
noncomputable def e79 : EFunc := EFunc.mk 8 true
 (s (o [p 2 (.mv (ii 0))])
 (s (EC.cond (.c (.bool false))
 (s (o [p 3 (.mv (t 0)),
  p 4 (.cvI .u32 (t 3)),
  p 5 (.pcall 104 [(t 4)]),
  p 2 (.mv (t 5))])
 (EC.ret))
 (EC.skip))
 (s (o [p 6 (.mv (t 0)),
  p 7 (.pcall 105 [(t 6)]),
  p 2 (.mv (t 7))])
 (EC.ret))))
 [.t 2]
/- glowworm/qos.May -/
noncomputable def e80 : EFunc := EFunc.mk 40 true
 (s (o [p 1 (.box (t 0)),
  p 2 (.mv (.c (.bool false)))])
 (s (o [p 4 (.fa 0 (t 1)),
  p 5 (.ld1 (t 4)),
  p 6 (.ibin .and (t 5) (ii 1)),
  p 7 (.ibin .eql (t 6) (ii 1)),
  p 8 (.mv (t 7)),
  w (some 9) (some (8, true)) (.fa 1 (t 1)) 0 0 0,
  w (some 10) (some (8, true)) (.ld1 (t 9)) 0 0 0,
  w (some 11) (some (8, true)) (.ibin .and (t 10) (ii 1)) 0 0 0,
  w (some 12) (some (8, true)) (.ibin .eql (t 11) (ii 1)) 0 0 0,
  p 13 (.pick (t 8) (t 12) (.c (.bool false))),
  p 3 (.mv (t 13))])
 (s (o [p 14 (.mv (t 3)),
  p 15 (.mv (t 14)),
  w (some 16) (some (15, true)) (.fa 0 (t 1)) 0 0 0,
  w (some 17) (some (15, true)) (.ld1 (t 16)) 0 0 0,
  w (some 18) (some (15, true)) (.pcall 106 [(t 17), (ii 15)]) 0 0 0,
  p 19 (.pick (t 15) (t 18) (.c (.bool false))),
  p 20 (.mv (t 19)),
  w (some 21) (some (20, true)) (.fa 1 (t 1)) 0 0 0,
  w (some 22) (some (20, true)) (.ld1 (t 21)) 0 0 0,
  w (some 23) (some (20, true)) (.pcall 106 [(t 22), (ii 7)]) 0 0 0,
  p 24 (.pick (t 20) (t 23) (.c (.bool false))),
  p 25 (.mv (t 24)),
  w (some 26) (some (25, true)) (.fa 2 (t 1)) 0 0 0,
  w (some 27) (some (25, true)) (.ld1 (t 26)) 0 0 0,
  w (some 28) (some (25, true)) (.pcall 106 [(t 27), (ii 127)]) 0 0 0,
  p 29 (.pick (t 25) (t 28) (.c (.bool false))),
  p 30 (.mv (t 29)),
  w (some 31) (some (30, true)) (.fa 3 (t 1)) 0 0 0,
  w (some 32) (some (30, true)) (.ld1 (t 31)) 0 0 0,
  w (some 33) (some (30, true)) (.pcall 106 [(t 32), (ii 15)]) 0 0 0,
  p 34 (.pick (t 30) (t 33) (.c (.bool false))),
  p 35 (.mv (t 34)),
  w (some 36) (some (35, true)) (.fa 4 (t 1)) 0 0 0,
  w (some 37) (some (35, true)) (.ld1 (t 36)) 0 0 0,
  w (some 38) (some (35, true)) (.pcall 106 [(t 37), (ii 7)]) 0 0 0,
  p 39 (.pick (t 35) (t 38) (.c (.bool false))),
  p 2 (.mv (t 39))])
 (EC.ret))))
 [.t 2]
/- glowworm/tuple.Put -/
noncomputable def e81 : EFunc := EFunc.mk 46 false
 (s (o [p 2 (.mv (.c (.str []))),
  p 3 (.mv (.c (.bool false)))])
 (s (o [p 4 (.mv (.c .nils))])
 (s (s (o [p 7 (.mv (t 0)),
  p 8 (.len (t 7)),
  p 9 (.mv (ii 0))])
 (EC.block 0 (EC.loop (s (o [p 10 (.ibin .lss (t 9) (t 8))])
 (s (EC.cond (t 10)
 (EC.skip)
 (EC.exit 0))
 (s (EC.block 1 (s (o [p 11 (.ia 2 (t 7) (t 9)),
  p 12 (.ldn 2 (t 11)),
  p 6 (.new [(.int .i64 0), (.str [])]),
  q (.st 2 (t 6) (t 12))])
 (s (s (o [p 13 (.fa 0 (t 6)),
  p 14 (.ld1 (t 13)),
  p 15 (.ibin .lss (t 14) (ii 0)),
  p 16 (.mv (t 15)),
  w (some 17) (some (16, false)) (.fa 0 (t 6)) 0 0 0,
  w (some 18) (some (16, false)) (.ld1 (t 17)) 0 0 0,
  w (some 19) (some (16, false)) (.ibin .gtr (t 18) (ii 255)) 0 0 0,
  p 20 (.pick (t 16) (.c (.bool true)) (t 19)),
  p 21 (.mv (t 20)),
  w (some 22) (some (21, false)) (.fa 1 (t 6)) 0 0 0,
  w (some 23) (some (21, false)) (.ld1 (t 22)) 0 0 0,
  w (some 24) (some (21, false)) (.lenS (t 23)) 0 0 0,
  w (some 25) (some (21, false)) (.ibin .gtr (t 24) (ii 40)) 0 0 0,
  p 26 (.pick (t 21) (.c (.bool true)) (t 25))])
 (EC.cond (t 26)
 (s (o [p 2 (.mv (.c (.str []))),
  p 3 (.mv (.c (.bool false)))])
 (EC.ret))
 (EC.skip)))
 (EC.draw 14 [w (some 27) none (.mv (t 4)) 0 0 0,
  w (some 28) none (.fa 0 (t 6)) 0 0 1,
  w (some 29) none (.ld1 (t 28)) 0 0 2,
  w (some 30) none (.cvI .u8 (t 29)) 0 0 3,
  w (some 31) none (.fa 1 (t 6)) 0 0 4,
  w (some 32) none (.ld1 (t 31)) 0 0 5,
  w (some 33) none (.lenS (t 32)) 0 0 6,
  w (some 34) none (.cvI .u8 (t 33)) 0 0 7,
  w (some 35) none (.bslice 1 2 [(.int .u8 0), (.int .u8 0)] [(0, 1, (t 30)), (1, 1, (t 34))]) 0 0 8,
  w (some 36) none (.app 1 1 (t 27) (t 35)) 0 1 9,
  w (some 37) none (.fa 1 (t 6)) 0 1 10,
  w (some 38) none (.ld1 (t 37)) 0 1 11,
  w (some 39) none (.app 1 1 (t 36) (t 38)) 1 2 12,
  w (some 4) none (.mv (t 39)) 2 2 13]))))
 (o [p 40 (.ibin .add (t 9) (ii 1)),
  p 9 (.mv (t 40))])))))))
 (s (s (o [p 41 (.mv (t 4)),
  p 42 (.len (t 41)),
  p 43 (.ibin .gtr (t 42) (ii 64))])
 (EC.cond (t 43)
 (s (o [p 2 (.mv (.c (.str []))),
  p 3 (.mv (.c (.bool false)))])
 (EC.ret))
 (EC.skip)))
 (s (o [p 44 (.mv (t 4)),
  p 45 (.cvBS (t 44)),
  p 2 (.mv (t 45)),
  p 3 (.mv (.c (.bool true)))])
 (EC.ret))))))
 [.t 2, .t 3]
/- glowworm/tuple.Get -/
noncomputable def e82 : EFunc := EFunc.mk 46 false
 (s (o [p 2 (.mv (.c .nils)),
  p 3 (.mv (.c (.bool false)))])
 (s (o [p 4 (.mv (.c .nils))])
 (s (s (o [p 6 (.mv (t 0)),
  p 7 (.lenS (t 6)),
  p 8 (.ibin .gtr (t 7) (ii 64))])
 (EC.cond (t 8)
 (s (o [p 2 (.mv (.c .nils)),
  p 3 (.mv (.c (.bool false)))])
 (EC.ret))
 (EC.skip)))
 (s (EC.block 0 (EC.loop (s (s (o [p 9 (.mv (t 0)),
  p 10 (.sbin .neq (t 9) (.c (.str [])))])
 (EC.cond (t 10)
 (EC.skip)
 (EC.exit 0)))
 (EC.block 1 (s (s (o [p 11 (.mv (t 0)),
  p 12 (.lenS (t 11)),
  p 13 (.ibin .lss (t 12) (ii 2)),
  p 14 (.mv (t 13)),
  w (some 15) (some (14, false)) (.mv (t 0)) 0 0 0,
  w (some 16) (some (14, false)) (.ixS (t 15) (ii 1)) 0 0 0,
  w (some 17) (some (14, false)) (.ibin .gtr (t 16) (.c (.int .u8 40))) 0 0 0,
  p 18 (.pick (t 14) (.c (.bool true)) (t 17)),
  p 19 (.mv (t 18)),
  w (some 20) (some (19, false)) (.mv (t 0)) 0 0 0,
  w (some 21) (some (19, false)) (.lenS (t 20)) 0 0 0,
  w (some 22) (some (19, false)) (.mv (t 0)) 0 0 0,
  w (some 23) (some (19, false)) (.ixS (t 22) (ii 1)) 0 0 0,
  w (some 24) (some (19, false)) (.cvI .i64 (t 23)) 0 0 0,
  w (some 25) (some (19, false)) (.ibin .add (ii 2) (t 24)) 0 0 0,
  w (some 26) (some (19, false)) (.ibin .lss (t 21) (t 25)) 0 0 0,
  p 27 (.pick (t 19) (.c (.bool true)) (t 26))])
 (EC.cond (t 27)
 (s (o [p 2 (.mv (.c .nils)),
  p 3 (.mv (.c (.bool false)))])
 (EC.ret))
 (EC.skip)))
 (s (o [p 28 (.mv (t 0)),
  p 29 (.ixS (t 28) (ii 1)),
  p 30 (.cvI .i64 (t 29)),
  p 31 (.ibin .add (ii 2) (t 30)),
  p 5 (.mv (t 31))])
 (s (EC.draw 11 [w (some 32) none (.mv (t 4)) 0 0 0,
  w (some 33) none (.mv (t 0)) 0 0 1,
  w (some 34) none (.ixS (t 33) (ii 0)) 0 0 2,
  w (some 35) none (.cvI .i64 (t 34)) 0 0 3,
  w (some 36) none (.mv (t 0)) 0 0 4,
  w (some 37) none (.mv (t 5)) 0 0 5,
  w (some 38) none (.slS (t 36) (some (ii 2)) (some (t 37))) 0 0 6,
  w (some 39) none (.build [(.int .i64 0), (.str [])] [(0, 1, (t 35)), (1, 1, (t 38))]) 0 0 7,
  w (some 40) none (.bslice 2 1 [(.int .i64 0), (.str [])] [(0, 2, (t 39))]) 0 0 8,
  w (some 41) none (.app 2 24 (t 32) (t 40)) 0 1 9,
  w (some 4) none (.mv (t 41)) 1 1 10])
 (o [p 42 (.mv (t 0)),
  p 43 (.mv (t 5)),
  p 44 (.slS (t 42) (some (t 43)) none),
  p 0 (.mv (t 44))]))))))))
 (s (o [p 45 (.mv (t 4)),
  p 2 (.mv (t 45)),
  p 3 (.mv (.c (.bool true)))])
 (EC.ret))))))
 [.t 2, .t 3]
/- glowworm/tuple.Find -/
noncomputable def e83 : EFunc := EFunc.mk 21 false
 (s (o [p 4 (.mv (.c (.str []))),
  p 5 (.mv (.c (.bool false)))])
 (s (s (o [p 8 (.mv (t 0)),
  p 9 (.len (t 8)),
  p 10 (.mv (ii 0))])
 (EC.block 0 (EC.loop (s (o [p 11 (.ibin .lss (t 10) (t 9))])
 (s (EC.cond (t 11)
 (EC.skip)
 (EC.exit 0))
 (s (EC.block 1 (s (o [p 12 (.ia 2 (t 8) (t 10)),
  p 13 (.ldn 2 (t 12)),
  p 7 (.new [(.int .i64 0), (.str [])]),
  q (.st 2 (t 7) (t 13))])
 (s (o [p 14 (.fa 0 (t 7)),
  p 15 (.ld1 (t 14)),
  p 16 (.mv (t 1)),
  p 17 (.ibin .eql (t 15) (t 16))])
 (EC.cond (t 17)
 (s (o [p 18 (.fa 1 (t 7)),
  p 19 (.ld1 (t 18)),
  p 4 (.mv (t 19)),
  p 5 (.mv (.c (.bool true)))])
 (EC.ret))
 (EC.skip)))))
 (o [p 20 (.ibin .add (t 10) (ii 1)),
  p 10 (.mv (t 20))])))))))
 (s (o [p 4 (.mv (.c (.str []))),
  p 5 (.mv (.c (.bool false)))])
 (EC.ret))))
 [.t 4, .t 5]
/- glowworm/qos.Baud -/
noncomputable def e84 : EFunc := EFunc.mk 6 true
 (s (o [p 2 (.mv (ii 0))])
 (s (o [p 3 (.mv (t 0)),
  p 4 (.bslice 1 4 [(.int .i64 0), (.int .i64 0), (.int .i64 0), (.int .i64 0)] [(0, 1, (ii 32)), (1, 1, (ii 64)), (2, 1, (ii 128)), (3, 1, (ii 256))]),
  p 5 (.call 107 [(t 3), (t 4)]),
  p 2 (.mv (t 5))])
 (EC.ret)))
 [.t 2]
/- glowworm/qos.Silent -/
noncomputable def e85 : EFunc := EFunc.mk 6 true
 (s (o [p 2 (.mv (ii 0))])
 (s (o [p 3 (.mv (t 0)),
  p 4 (.bslice 1 3 [(.int .i64 0), (.int .i64 0), (.int .i64 0)] [(0, 1, (ii 200)), (1, 1, (ii 300)), (2, 1, (ii 500))]),
  p 5 (.call 107 [(t 3), (t 4)]),
  p 2 (.mv (t 5))])
 (EC.ret)))
 [.t 2]
/- glowworm/qos.Size -/
noncomputable def e86 : EFunc := EFunc.mk 6 true
 (s (o [p 2 (.mv (ii 0))])
 (s (o [p 3 (.mv (t 0)),
  p 4 (.bslice 1 4 [(.int .i64 0), (.int .i64 0), (.int .i64 0), (.int .i64 0)] [(0, 1, (ii 8)), (1, 1, (ii 16)), (2, 1, (ii 32)), (3, 1, (ii 64))]),
  p 5 (.call 107 [(t 3), (t 4)]),
  p 2 (.mv (t 5))])
 (EC.ret)))
 [.t 2]
/- glowworm/xid.put4 -/
noncomputable def e87 : EFunc := EFunc.mk 19 false
 (s (o [p 4 (.mv (.c .nils))])
 (s (o [p 5 (.mv (t 0)),
  p 6 (.mv (t 1)),
  p 7 (.cvI .u8 (t 6)),
  p 8 (.mv (t 1)),
  p 9 (.ibin .shr (t 8) (.c (.int .u64 8))),
  p 10 (.cvI .u8 (t 9)),
  p 11 (.mv (t 1)),
  p 12 (.ibin .shr (t 11) (.c (.int .u64 16))),
  p 13 (.cvI .u8 (t 12)),
  p 14 (.mv (t 1)),
  p 15 (.ibin .shr (t 14) (.c (.int .u64 24))),
  p 16 (.cvI .u8 (t 15)),
  p 17 (.bslice 1 4 [(.int .u8 0), (.int .u8 0), (.int .u8 0), (.int .u8 0)] [(0, 1, (t 7)), (1, 1, (t 10)), (2, 1, (t 13)), (3, 1, (t 16))]),
  p 18 (.app 1 1 (t 5) (t 17)),
  p 4 (.mv (t 18))])
 (EC.ret)))
 [.t 4]
/- glowworm/xid.get4 -/
noncomputable def e88 : EFunc := EFunc.mk 21 true
 (s (o [p 2 (.mv (.c (.int .u32 0)))])
 (s (EC.draw 19 [w (some 3) none (.mv (t 0)) 0 0 0,
  w (some 4) none (.ixS (t 3) (ii 0)) 0 0 1,
  w (some 5) none (.cvI .u32 (t 4)) 0 0 2,
  w (some 6) none (.mv (t 0)) 0 0 3,
  w (some 7) none (.ixS (t 6) (ii 1)) 0 0 4,
  w (some 8) none (.cvI .u32 (t 7)) 0 0 5,
  w (some 9) none (.ibin .shl (t 8) (.c (.int .u64 8))) 0 0 6,
  w (some 10) none (.ibin .or (t 5) (t 9)) 0 0 7,
  w (some 11) none (.mv (t 0)) 0 0 8,
  w (some 12) none (.ixS (t 11) (ii 2)) 0 0 9,
  w (some 13) none (.cvI .u32 (t 12)) 0 0 10,
  w (some 14) none (.ibin .shl (t 13) (.c (.int .u64 16))) 0 0 11,
  w (some 15) none (.ibin .or (t 10) (t 14)) 0 0 12,
  w (some 16) none (.mv (t 0)) 0 0 13,
  w (some 17) none (.ixS (t 16) (ii 3)) 0 0 14,
  w (some 18) none (.cvI .u32 (t 17)) 0 0 15,
  w (some 19) none (.ibin .shl (t 18) (.c (.int .u64 24))) 0 0 16,
  w (some 20) none (.ibin .or (t 15) (t 19)) 0 0 17,
  w (some 2) none (.mv (t 20)) 0 0 18])
 (EC.ret)))
 [.t 2]
/- glowworm/setup.may -/
noncomputable def e89 : EFunc := EFunc.mk 34 true
 (s (o [p 1 (.box (t 0)),
  p 2 (.mv (.c (.bool false)))])
 (s (o [p 4 (.fa 2 (t 1)),
  p 5 (.ldn 2 (t 4)),
  p 3 (.new [(.int .i64 0), (.int .i64 0)]),
  q (.st 2 (t 3) (t 5))])
 (s (o [p 6 (.fa 0 (t 1)),
  p 7 (.ld1 (t 6)),
  p 8 (.pcall 108 [(t 7)]),
  p 9 (.mv (t 8)),
  w (some 10) (some (9, true)) (.fa 1 (t 1)) 0 0 0,
  w (some 11) (some (9, true)) (.ld1 (t 10)) 0 0 0,
  w (some 12) (some (9, true)) (.pcall 108 [(t 11)]) 0 0 0,
  p 13 (.pick (t 9) (t 12) (.c (.bool false))),
  p 14 (.mv (t 13)),
  w (some 15) (some (14, true)) (.fa 0 (t 3)) 0 0 0,
  w (some 16) (some (14, true)) (.ld1 (t 15)) 0 0 0,
  w (some 17) (some (14, true)) (.ibin .geq (t 16) (ii 0)) 0 0 0,
  p 18 (.pick (t 14) (t 17) (.c (.bool false))),
  p 19 (.mv (t 18)),
  w (some 20) (some (19, true)) (.fa 0 (t 3)) 0 0 0,
  w (some 21) (some (19, true)) (.ld1 (t 20)) 0 0 0,
  w (some 22) (some (19, true)) (.ibin .lss (t 21) (ii 8)) 0 0 0,
  p 23 (.pick (t 19) (t 22) (.c (.bool false))),
  p 24 (.mv (t 23)),
  w (some 25) (some (24, true)) (.fa 1 (t 3)) 0 0 0,
  w (some 26) (some (24, true)) (.ld1 (t 25)) 0 0 0,
  w (some 27) (some (24, true)) (.ibin .geq (t 26) (ii 0)) 0 0 0,
  p 28 (.pick (t 24) (t 27) (.c (.bool false))),
  p 29 (.mv (t 28)),
  w (some 30) (some (29, true)) (.fa 1 (t 3)) 0 0 0,
  w (some 31) (some (29, true)) (.ld1 (t 30)) 0 0 0,
  w (some 32) (some (29, true)) (.ibin .lss (t 31) (ii 250)) 0 0 0,
  p 33 (.pick (t 29) (t 32) (.c (.bool false))),
  p 2 (.mv (t 33))])
 (EC.ret))))
 [.t 2]
/- glowworm/setup.put4 -/
noncomputable def e90 : EFunc := EFunc.mk 19 false
 (s (o [p 4 (.mv (.c .nils))])
 (s (o [p 5 (.mv (t 0)),
  p 6 (.mv (t 1)),
  p 7 (.cvI .u8 (t 6)),
  p 8 (.mv (t 1)),
  p 9 (.ibin .shr (t 8) (.c (.int .u64 8))),
  p 10 (.cvI .u8 (t 9)),
  p 11 (.mv (t 1)),
  p 12 (.ibin .shr (t 11) (.c (.int .u64 16))),
  p 13 (.cvI .u8 (t 12)),
  p 14 (.mv (t 1)),
  p 15 (.ibin .shr (t 14) (.c (.int .u64 24))),
  p 16 (.cvI .u8 (t 15)),
  p 17 (.bslice 1 4 [(.int .u8 0), (.int .u8 0), (.int .u8 0), (.int .u8 0)] [(0, 1, (t 7)), (1, 1, (t 10)), (2, 1, (t 13)), (3, 1, (t 16))]),
  p 18 (.app 1 1 (t 5) (t 17)),
  p 4 (.mv (t 18))])
 (EC.ret)))
 [.t 4]
/- glowworm/setup.get4 -/
noncomputable def e91 : EFunc := EFunc.mk 21 true
 (s (o [p 2 (.mv (.c (.int .u32 0)))])
 (s (EC.draw 19 [w (some 3) none (.mv (t 0)) 0 0 0,
  w (some 4) none (.ixS (t 3) (ii 0)) 0 0 1,
  w (some 5) none (.cvI .u32 (t 4)) 0 0 2,
  w (some 6) none (.mv (t 0)) 0 0 3,
  w (some 7) none (.ixS (t 6) (ii 1)) 0 0 4,
  w (some 8) none (.cvI .u32 (t 7)) 0 0 5,
  w (some 9) none (.ibin .shl (t 8) (.c (.int .u64 8))) 0 0 6,
  w (some 10) none (.ibin .or (t 5) (t 9)) 0 0 7,
  w (some 11) none (.mv (t 0)) 0 0 8,
  w (some 12) none (.ixS (t 11) (ii 2)) 0 0 9,
  w (some 13) none (.cvI .u32 (t 12)) 0 0 10,
  w (some 14) none (.ibin .shl (t 13) (.c (.int .u64 16))) 0 0 11,
  w (some 15) none (.ibin .or (t 10) (t 14)) 0 0 12,
  w (some 16) none (.mv (t 0)) 0 0 13,
  w (some 17) none (.ixS (t 16) (ii 3)) 0 0 14,
  w (some 18) none (.cvI .u32 (t 17)) 0 0 15,
  w (some 19) none (.ibin .shl (t 18) (.c (.int .u64 24))) 0 0 16,
  w (some 20) none (.ibin .or (t 15) (t 19)) 0 0 17,
  w (some 2) none (.mv (t 20)) 0 0 18])
 (EC.ret)))
 [.t 2]
end Go.Proofs.YtdalcnjdpfnjjaaGreatDoor.Co
