/- The program's functions as the evaluator has them. Printed by our own program (wip/PrintE.lean). -/
import Derived.Test.YtdalcnjdpfnjjaaGreatDoorCoD
namespace Go.Proofs.YtdalcnjdpfnjjaaGreatDoor.Co
open Go Go.Ev
/- glowworm/glowwormlaw4.begun -/
noncomputable def e92 : EFunc := EFunc.mk 138 true
 (s (o [p 0 (.mv (.c (.bool false)))])
 (s (o [p 17 (.pcall 109 []),
  p 18 (.build [(.int .i64 0), (.bool false)] [(0, 1, (ii 2)), (1, 1, (.c (.bool true)))]),
  p 19 (.mkI 158 (t 18)),
  p 20 (.build [(.int .i64 0), (.int .i64 0), (.bool false), .nilI, (.str [])] [(0, 2, (t 17)), (2, 1, (.c (.bool true))), (3, 1, (t 19)), (4, 1, (.c (.str [120])))]),
  p 1 (.new [(.int .i64 0), (.int .i64 0), (.bool false), .nilI, (.str [])]),
  q (.st 5 (t 1) (t 20))])
 (s (o [p 22 (.ldn 5 (t 1)),
  p 23 (.call 110 [(t 22)]),
  p 21 (.mv (t 23)),
  p 24 (.ext (t 21) 0),
  p 25 (.ext (t 21) 1),
  p 2 (.mv (t 24)),
  p 3 (.mv (t 25))])
 (s (o [p 27 (.mv (t 2)),
  p 28 (.call 111 [(t 27)]),
  p 26 (.mv (t 28)),
  p 29 (.ext (t 26) 0),
  p 30 (.ext (t 26) 1),
  p 4 (.new [(.int .i64 0), (.int .i64 0), (.bool false), .nilI, (.str [])]),
  q (.st 5 (t 4) (t 29)),
  p 5 (.mv (t 30))])
 (s (o [p 31 (.ldn 5 (t 1)),
  p 32 (.pcall 112 [(t 31)]),
  p 6 (.new [(.int .i64 0), (.int .i64 0), (.bool false), (.int .i64 0), (.int .i64 0), (.int .i64 0), (.int .i64 0), (.bool false), (.str [])]),
  q (.st 9 (t 6) (t 32))])
 (s (o [p 34 (.ldn 9 (t 6)),
  p 35 (.pcall 113 [(t 34)]),
  p 33 (.mv (t 35)),
  p 36 (.ext (t 33) 0),
  p 37 (.ext (t 33) 1),
  p 7 (.new [(.int .i64 0), (.int .i64 0), (.bool false), .nilI, (.str [])]),
  q (.st 5 (t 7) (t 36)),
  p 8 (.mv (t 37))])
 (s (o [p 39 (.build [(.int .i64 0), (.str [])] [(0, 1, (ii 3)), (1, 1, (.c (.str [113])))]),
  p 40 (.bslice 2 1 [(.int .i64 0), (.str [])] [(0, 2, (t 39))]),
  p 41 (.call 81 [(t 40)]),
  p 38 (.mv (t 41)),
  p 42 (.ext (t 38) 0),
  p 43 (.ext (t 38) 1),
  p 9 (.mv (t 42)),
  p 10 (.mv (t 43))])
 (s (o [p 45 (.mv (t 9)),
  p 46 (.call 82 [(t 45)]),
  p 44 (.mv (t 46)),
  p 47 (.ext (t 44) 0),
  p 48 (.ext (t 44) 1),
  p 11 (.mv (t 47)),
  p 12 (.mv (t 48))])
 (s (o [p 50 (.mv (t 11)),
  p 51 (.call 83 [(t 50), (ii 3)]),
  p 49 (.mv (t 51)),
  p 52 (.ext (t 49) 0),
  p 53 (.ext (t 49) 1),
  p 13 (.mv (t 52)),
  p 14 (.mv (t 53))])
 (s (o [p 55 (.pcall 114 [(.c (.int .u8 84))]),
  p 54 (.mv (t 55)),
  p 56 (.ext (t 54) 0),
  p 57 (.ext (t 54) 1),
  p 15 (.mv (t 56)),
  p 16 (.mv (t 57))])
 (s (o [p 58 (.pcall 115 []),
  p 59 (.mv (t 58)),
  w (some 60) (some (59, true)) (.mv (t 3)) 0 0 0,
  p 61 (.pick (t 59) (t 60) (.c (.bool false))),
  p 62 (.mv (t 61)),
  w (some 63) (some (62, true)) (.mv (t 2)) 0 0 0,
  w (some 64) (some (62, true)) (.cvBS (t 63)) 0 0 0,
  w (some 65) (some (62, true)) (.sbin .eql (t 64) (.c (.str [255, 255, 147, 120]))) 0 0 0,
  p 66 (.pick (t 62) (t 65) (.c (.bool false))),
  p 67 (.mv (t 66)),
  w (some 68) (some (67, true)) (.mv (t 5)) 0 0 0,
  p 69 (.pick (t 67) (t 68) (.c (.bool false))),
  p 70 (.mv (t 69)),
  w (some 71) (some (70, true)) (.ldn 5 (t 1)) 0 0 0,
  w (some 72) (some (70, true)) (.ldn 5 (t 4)) 0 0 0,
  w (some 73) (some (70, true)) (.pcall 116 [(t 71), (t 72)]) 0 0 0,
  p 74 (.pick (t 70) (t 73) (.c (.bool false))),
  p 75 (.mv (t 74)),
  w (some 76) (some (75, true)) (.fa 3 (t 6)) 0 0 0,
  w (some 77) (some (75, true)) (.ld1 (t 76)) 0 0 0,
  w (some 78) (some (75, true)) (.ibin .eql (t 77) (ii 3)) 0 0 0,
  p 79 (.pick (t 75) (t 78) (.c (.bool false))),
  p 80 (.mv (t 79)),
  w (some 81) (some (80, true)) (.fa 4 (t 6)) 0 0 0,
  w (some 82) (some (80, true)) (.ld1 (t 81)) 0 0 0,
  w (some 83) (some (80, true)) (.ibin .eql (t 82) (ii 2)) 0 0 0,
  p 84 (.pick (t 80) (t 83) (.c (.bool false))),
  p 85 (.mv (t 84)),
  w (some 86) (some (85, true)) (.mv (t 8)) 0 0 0,
  p 87 (.pick (t 85) (t 86) (.c (.bool false))),
  p 88 (.mv (t 87)),
  w (some 89) (some (88, true)) (.ldn 5 (t 7)) 0 0 0,
  w (some 90) (some (88, true)) (.ldn 5 (t 1)) 0 0 0,
  w (some 91) (some (88, true)) (.pcall 116 [(t 89), (t 90)]) 0 0 0,
  p 92 (.pick (t 88) (t 91) (.c (.bool false))),
  p 93 (.mv (t 92)),
  w (some 94) (some (93, true)) (.mv (t 10)) 0 0 0,
  p 95 (.pick (t 93) (t 94) (.c (.bool false))),
  p 96 (.mv (t 95)),
  w (some 97) (some (96, true)) (.mv (t 9)) 0 0 0,
  w (some 98) (some (96, true)) (.sbin .eql (t 97) (.c (.str [3, 1, 113]))) 0 0 0,
  p 99 (.pick (t 96) (t 98) (.c (.bool false))),
  p 100 (.mv (t 99)),
  w (some 101) (some (100, true)) (.mv (t 12)) 0 0 0,
  p 102 (.pick (t 100) (t 101) (.c (.bool false))),
  p 103 (.mv (t 102)),
  w (some 104) (some (103, true)) (.mv (t 14)) 0 0 0,
  p 105 (.pick (t 103) (t 104) (.c (.bool false))),
  p 106 (.mv (t 105)),
  w (some 107) (some (106, true)) (.mv (t 13)) 0 0 0,
  w (some 108) (some (106, true)) (.sbin .eql (t 107) (.c (.str [113]))) 0 0 0,
  p 109 (.pick (t 106) (t 108) (.c (.bool false))),
  p 110 (.mv (t 109)),
  w (some 111) (some (110, true)) (.mv (t 16)) 0 0 0,
  p 112 (.pick (t 110) (t 111) (.c (.bool false))),
  p 113 (.mv (t 112)),
  w (some 114) (some (113, true)) (.mv (t 15)) 0 0 0,
  w (some 115) (some (113, true)) (.pcall 117 [(t 114)]) 0 0 0,
  w (some 116) (some (113, true)) (.build [(.int .i64 0), (.int .i64 0), (.bool false)] [(0, 1, (ii 2)), (1, 1, (ii 2)), (2, 1, (.c (.bool true)))]) 0 0 0,
  w (some 117) (some (113, true)) (.aeq false [1, 1, 0] (t 115) (t 116)) 0 0 0,
  p 118 (.pick (t 113) (t 117) (.c (.bool false))),
  p 119 (.mv (t 118)),
  w (some 120) (some (119, true)) (.pcall 45 [(.c (.str [104, 195, 169]))]) 0 0 0,
  p 121 (.pick (t 119) (t 120) (.c (.bool false))),
  p 122 (.mv (t 121)),
  w (some 123) (some (122, true)) (.pcall 118 [(.c (.str [104, 195, 169]))]) 0 0 0,
  w (some 124) (some (122, true)) (.ibin .eql (t 123) (ii 2)) 0 0 0,
  p 125 (.pick (t 122) (t 124) (.c (.bool false))),
  p 126 (.mv (t 125)),
  w (some 127) (some (126, true)) (.pcall 119 [(.c (.str [104, 195, 169]))]) 0 0 0,
  w (some 128) (some (126, true)) (.sbin .eql (t 127) (.c (.str [104, 63]))) 0 0 0,
  p 129 (.pick (t 126) (t 128) (.c (.bool false))),
  p 130 (.mv (t 129)),
  w (some 131) (some (130, true)) (.pcall 120 [(.c (.str [104, 195, 169])), (ii 2)]) 0 0 0,
  w (some 132) (some (130, true)) (.sbin .eql (t 131) (.c (.str [104]))) 0 0 0,
  p 133 (.pick (t 130) (t 132) (.c (.bool false))),
  p 134 (.mv (t 133)),
  w (some 135) (some (134, true)) (.pcall 60 [(.c (.int .i32 55))]) 0 0 0,
  w (some 136) (some (134, true)) (.ibin .eql (t 135) (ii 2)) 0 0 0,
  p 137 (.pick (t 134) (t 136) (.c (.bool false))),
  p 0 (.mv (t 137))])
 (EC.ret))))))))))))
 [.t 0]
/- math/bits.Len16 -/
noncomputable def e93 : EFunc := EFunc.mk 13 true
 (s (o [p 2 (.mv (ii 0))])
 (s (s (o [p 3 (.mv (t 0)),
  p 4 (.ibin .geq (t 3) (.c (.int .u16 256)))])
 (EC.cond (t 4)
 (s (o [p 5 (.mv (t 0)),
  p 6 (.ibin .shr (t 5) (.c (.int .u64 8))),
  p 0 (.mv (t 6))])
 (o [p 2 (.mv (ii 8))]))
 (EC.skip)))
 (s (o [p 7 (.mv (t 2)),
  p 8 (.mv (t 0)),
  p 9 (.cvI .u8 (t 8)),
  p 10 (.ixS (.c (.str [0, 1, 2, 2, 3, 3, 3, 3, 4, 4, 4, 4, 4, 4, 4, 4, 5, 5, 5, 5, 5, 5, 5, 5, 5, 5, 5, 5, 5, 5, 5, 5, 6, 6, 6, 6, 6, 6, 6, 6, 6, 6, 6, 6, 6, 6, 6, 6, 6, 6, 6, 6, 6, 6, 6, 6, 6, 6, 6, 6, 6, 6, 6, 6, 7, 7, 7, 7, 7, 7, 7, 7, 7, 7, 7, 7, 7, 7, 7, 7, 7, 7, 7, 7, 7, 7, 7, 7, 7, 7, 7, 7, 7, 7, 7, 7, 7, 7, 7, 7, 7, 7, 7, 7, 7, 7, 7, 7, 7, 7, 7, 7, 7, 7, 7, 7, 7, 7, 7, 7, 7, 7, 7, 7, 7, 7, 7, 7, 8, 8, 8, 8, 8, 8, 8, 8, 8, 8, 8, 8, 8, 8, 8, 8, 8, 8, 8, 8, 8, 8, 8, 8, 8, 8, 8, 8, 8, 8, 8, 8, 8, 8, 8, 8, 8, 8, 8, 8, 8, 8, 8, 8, 8, 8, 8, 8, 8, 8, 8, 8, 8, 8, 8, 8, 8, 8, 8, 8, 8, 8, 8, 8, 8, 8, 8, 8, 8, 8, 8, 8, 8, 8, 8, 8, 8, 8, 8, 8, 8, 8, 8, 8, 8, 8, 8, 8, 8, 8, 8, 8, 8, 8, 8, 8, 8, 8, 8, 8, 8, 8, 8, 8, 8, 8, 8, 8, 8, 8, 8, 8, 8, 8, 8, 8, 8, 8, 8, 8, 8, 8, 8, 8, 8, 8, 8, 8])) (t 9)),
  p 11 (.cvI .i64 (t 10)),
  p 12 (.ibin .add (t 7) (t 11)),
  p 2 (.mv (t 12))])
 (EC.ret))))
 [.t 2]
/- math/bits.TrailingZeros16 -/
noncomputable def e94 : EFunc := EFunc.mk 15 true
 (s (o [p 2 (.mv (ii 0))])
 (s (s (o [p 3 (.mv (t 0)),
  p 4 (.ibin .eql (t 3) (.c (.int .u16 0)))])
 (EC.cond (t 4)
 (s (o [p 2 (.mv (ii 16))])
 (EC.ret))
 (EC.skip)))
 (s (o [p 5 (.mv (t 0)),
  p 6 (.mv (t 0)),
  p 7 (.un .neg (t 6)),
  p 8 (.ibin .and (t 5) (t 7)),
  p 9 (.cvI .u32 (t 8)),
  p 10 (.ibin .mul (t 9) (.c (.int .u32 125613361))),
  p 11 (.ibin .shr (t 10) (.c (.int .u64 27))),
  p 12 (.iaA 1 32 (.c (.ptr 0 0)) (t 11)),
  p 13 (.ld1 (t 12)),
  p 14 (.cvI .i64 (t 13)),
  p 2 (.mv (t 14))])
 (EC.ret))))
 [.t 2]
/- slices.insertionSortOrdered[uint32] -/
noncomputable def e95 : EFunc := EFunc.mk 49 false
 (s (o [p 8 (.mv (t 1)),
  p 9 (.ibin .add (t 8) (ii 1)),
  p 6 (.mv (t 9))])
 (EC.block 0 (EC.loop (s (s (o [p 10 (.mv (t 6)),
  p 11 (.mv (t 2)),
  p 12 (.ibin .lss (t 10) (t 11))])
 (EC.cond (t 12)
 (EC.skip)
 (EC.exit 0)))
 (s (EC.block 1 (s (o [p 15 (.mv (t 6)),
  p 7 (.mv (t 15))])
 (EC.block 2 (EC.loop (s (s (EC.draw 15 [w (some 16) none (.mv (t 7)) 0 0 0,
  w (some 17) none (.mv (t 1)) 0 0 1,
  w (some 18) none (.ibin .gtr (t 16) (t 17)) 0 0 2,
  w (some 19) none (.mv (t 18)) 0 0 3,
  w (some 20) (some (19, true)) (.mv (t 0)) 0 0 4,
  w (some 21) (some (19, true)) (.mv (t 7)) 0 0 5,
  w (some 22) (some (19, true)) (.ia 1 (t 20) (t 21)) 0 0 6,
  w (some 23) (some (19, true)) (.ld1 (t 22)) 0 0 7,
  w (some 24) (some (19, true)) (.mv (t 0)) 0 0 8,
  w (some 25) (some (19, true)) (.mv (t 7)) 0 0 9,
  w (some 26) (some (19, true)) (.ibin .sub (t 25) (ii 1)) 0 0 10,
  w (some 27) (some (19, true)) (.ia 1 (t 24) (t 26)) 0 0 11,
  w (some 28) (some (19, true)) (.ld1 (t 27)) 0 0 12,
  w (some 29) (some (19, true)) (.pcall 101 [(t 23), (t 28)]) 0 0 13,
  w (some 30) none (.pick (t 19) (t 29) (.c (.bool false))) 0 0 14])
 (EC.cond (t 30)
 (EC.skip)
 (EC.exit 2)))
 (s (EC.block 3 (EC.draw 18 [w (some 33) none (.mv (t 0)) 0 0 0,
  w (some 34) none (.mv (t 7)) 0 0 1,
  w (some 35) none (.mv (t 0)) 0 1 2,
  w (some 36) none (.mv (t 7)) 0 1 3,
  w (some 37) none (.ibin .sub (t 36) (ii 1)) 0 1 4,
  w (some 38) none (.mv (t 0)) 0 0 5,
  w (some 39) none (.mv (t 7)) 0 0 6,
  w (some 40) none (.ibin .sub (t 39) (ii 1)) 0 0 7,
  w (some 41) none (.ia 1 (t 38) (t 40)) 0 0 8,
  w (some 42) none (.ld1 (t 41)) 0 0 9,
  w (some 43) none (.mv (t 0)) 0 0 10,
  w (some 44) none (.mv (t 7)) 0 0 11,
  w (some 45) none (.ia 1 (t 43) (t 44)) 0 0 12,
  w (some 46) none (.ld1 (t 45)) 0 0 13,
  w (some 47) none (.ia 1 (t 33) (t 34)) 0 0 14,
  w none none (.st 1 (t 47) (t 42)) 0 1 15,
  w (some 48) none (.ia 1 (t 35) (t 37)) 1 1 16,
  w none none (.st 1 (t 48) (t 46)) 1 2 17]))
 (o [p 31 (.mv (t 7)),
  p 32 (.ibin .sub (t 31) (ii 1)),
  p 7 (.mv (t 32))])))))))
 (o [p 13 (.mv (t 6)),
  p 14 (.ibin .add (t 13) (ii 1)),
  p 6 (.mv (t 14))]))))))
 []
/- slices.heapSortOrdered[uint32] -/
noncomputable def e96 : EFunc := EFunc.mk 56 false
 (s (o [p 11 (.mv (t 1)),
  p 6 (.mv (t 11))])
 (s (o [p 7 (.mv (ii 0))])
 (s (o [p 12 (.mv (t 2)),
  p 13 (.mv (t 1)),
  p 14 (.ibin .sub (t 12) (t 13)),
  p 8 (.mv (t 14))])
 (s (s (o [p 15 (.mv (t 8)),
  p 16 (.ibin .sub (t 15) (ii 1)),
  p 17 (.ibin .quo (t 16) (ii 2)),
  p 9 (.mv (t 17))])
 (EC.block 0 (EC.loop (s (s (o [p 18 (.mv (t 9)),
  p 19 (.ibin .geq (t 18) (ii 0))])
 (EC.cond (t 19)
 (EC.skip)
 (EC.exit 0)))
 (s (EC.block 1 (o [p 22 (.mv (t 0)),
  p 23 (.mv (t 9)),
  p 24 (.mv (t 8)),
  p 25 (.mv (t 6)),
  p 26 (.call 121 [(t 22), (t 23), (t 24), (t 25)])]))
 (o [p 20 (.mv (t 9)),
  p 21 (.ibin .sub (t 20) (ii 1)),
  p 9 (.mv (t 21))]))))))
 (s (o [p 27 (.mv (t 8)),
  p 28 (.ibin .sub (t 27) (ii 1)),
  p 10 (.mv (t 28))])
 (EC.block 2 (EC.loop (s (s (o [p 29 (.mv (t 10)),
  p 30 (.ibin .geq (t 29) (ii 0))])
 (EC.cond (t 30)
 (EC.skip)
 (EC.exit 2)))
 (s (EC.block 3 (s (EC.draw 20 [w (some 33) none (.mv (t 0)) 0 0 0,
  w (some 34) none (.mv (t 6)) 0 0 1,
  w (some 35) none (.mv (t 0)) 0 1 2,
  w (some 36) none (.mv (t 6)) 0 1 3,
  w (some 37) none (.mv (t 10)) 0 1 4,
  w (some 38) none (.ibin .add (t 36) (t 37)) 0 1 5,
  w (some 39) none (.mv (t 0)) 0 0 6,
  w (some 40) none (.mv (t 6)) 0 0 7,
  w (some 41) none (.mv (t 10)) 0 0 8,
  w (some 42) none (.ibin .add (t 40) (t 41)) 0 0 9,
  w (some 43) none (.ia 1 (t 39) (t 42)) 0 0 10,
  w (some 44) none (.ld1 (t 43)) 0 0 11,
  w (some 45) none (.mv (t 0)) 0 0 12,
  w (some 46) none (.mv (t 6)) 0 0 13,
  w (some 47) none (.ia 1 (t 45) (t 46)) 0 0 14,
  w (some 48) none (.ld1 (t 47)) 0 0 15,
  w (some 49) none (.ia 1 (t 33) (t 34)) 0 0 16,
  w none none (.st 1 (t 49) (t 44)) 0 1 17,
  w (some 50) none (.ia 1 (t 35) (t 38)) 1 1 18,
  w none none (.st 1 (t 50) (t 48)) 1 2 19])
 (o [p 51 (.mv (t 0)),
  p 52 (.mv (t 7)),
  p 53 (.mv (t 10)),
  p 54 (.mv (t 6)),
  p 55 (.call 121 [(t 51), (t 52), (t 53), (t 54)])])))
 (o [p 31 (.mv (t 10)),
  p 32 (.ibin .sub (t 31) (ii 1)),
  p 10 (.mv (t 32))]))))))))))
 []
/- slices.breakPatternsOrdered[uint32] -/
noncomputable def e97 : EFunc := EFunc.mk 65 false
 (s (o [p 11 (.mv (t 2)),
  p 12 (.mv (t 1)),
  p 13 (.ibin .sub (t 11) (t 12)),
  p 6 (.mv (t 13))])
 (s (o [p 14 (.mv (t 6)),
  p 15 (.ibin .geq (t 14) (ii 8))])
 (EC.cond (t 15)
 (s (o [p 16 (.mv (t 6)),
  p 17 (.cvI .u64 (t 16)),
  p 7 (.new [(.int .u64 0)]),
  q (.st 1 (t 7) (t 17))])
 (s (o [p 18 (.mv (t 6)),
  p 19 (.pcall 122 [(t 18)]),
  p 8 (.mv (t 19))])
 (s (o [p 20 (.mv (t 1)),
  p 21 (.mv (t 6)),
  p 22 (.ibin .quo (t 21) (ii 4)),
  p 23 (.ibin .mul (t 22) (ii 2)),
  p 24 (.ibin .add (t 20) (t 23)),
  p 25 (.ibin .sub (t 24) (ii 1)),
  p 9 (.mv (t 25))])
 (EC.block 0 (EC.loop (s (s (o [p 26 (.mv (t 9)),
  p 27 (.mv (t 1)),
  p 28 (.mv (t 6)),
  p 29 (.ibin .quo (t 28) (ii 4)),
  p 30 (.ibin .mul (t 29) (ii 2)),
  p 31 (.ibin .add (t 27) (t 30)),
  p 32 (.ibin .add (t 31) (ii 1)),
  p 33 (.ibin .leq (t 26) (t 32))])
 (EC.cond (t 33)
 (EC.skip)
 (EC.exit 0)))
 (s (EC.block 1 (s (o [p 36 (.call 123 [(t 7)]),
  p 37 (.mv (t 8)),
  p 38 (.ibin .sub (t 37) (.c (.int .u64 1))),
  p 39 (.ibin .and (t 36) (t 38)),
  p 40 (.cvI .i64 (t 39)),
  p 10 (.mv (t 40))])
 (s (s (o [p 41 (.mv (t 10)),
  p 42 (.mv (t 6)),
  p 43 (.ibin .geq (t 41) (t 42))])
 (EC.cond (t 43)
 (o [p 44 (.mv (t 10)),
  p 45 (.mv (t 6)),
  p 46 (.ibin .sub (t 44) (t 45)),
  p 10 (.mv (t 46))])
 (EC.skip)))
 (EC.draw 20 [w (some 47) none (.mv (t 0)) 0 0 0,
  w (some 48) none (.mv (t 9)) 0 0 1,
  w (some 49) none (.mv (t 0)) 0 1 2,
  w (some 50) none (.mv (t 1)) 0 1 3,
  w (some 51) none (.mv (t 10)) 0 1 4,
  w (some 52) none (.ibin .add (t 50) (t 51)) 0 1 5,
  w (some 53) none (.mv (t 0)) 0 0 6,
  w (some 54) none (.mv (t 1)) 0 0 7,
  w (some 55) none (.mv (t 10)) 0 0 8,
  w (some 56) none (.ibin .add (t 54) (t 55)) 0 0 9,
  w (some 57) none (.ia 1 (t 53) (t 56)) 0 0 10,
  w (some 58) none (.ld1 (t 57)) 0 0 11,
  w (some 59) none (.mv (t 0)) 0 0 12,
  w (some 60) none (.mv (t 9)) 0 0 13,
  w (some 61) none (.ia 1 (t 59) (t 60)) 0 0 14,
  w (some 62) none (.ld1 (t 61)) 0 0 15,
  w (some 63) none (.ia 1 (t 47) (t 48)) 0 0 16,
  w none none (.st 1 (t 63) (t 58)) 0 1 17,
  w (some 64) none (.ia 1 (t 49) (t 52)) 1 1 18,
  w none none (.st 1 (t 64) (t 62)) 1 2 19]))))
 (o [p 34 (.mv (t 9)),
  p 35 (.ibin .add (t 34) (ii 1)),
  p 9 (.mv (t 35))]))))))))
 (EC.skip))))
 []
/- slices.choosePivotOrdered[uint32] -/
noncomputable def e98 : EFunc := EFunc.mk 57 false
 (s (o [p 6 (.mv (ii 0)),
  p 7 (.mv (ii 0))])
 (s (o [p 13 (.mv (t 2)),
  p 14 (.mv (t 1)),
  p 15 (.ibin .sub (t 13) (t 14)),
  p 8 (.mv (t 15))])
 (s (o [p 9 (.new [(.int .i64 0)])])
 (s (o [p 16 (.mv (t 1)),
  p 17 (.mv (t 8)),
  p 18 (.ibin .quo (t 17) (ii 4)),
  p 19 (.ibin .mul (t 18) (ii 1)),
  p 20 (.ibin .add (t 16) (t 19)),
  p 10 (.mv (t 20))])
 (s (o [p 21 (.mv (t 1)),
  p 22 (.mv (t 8)),
  p 23 (.ibin .quo (t 22) (ii 4)),
  p 24 (.ibin .mul (t 23) (ii 2)),
  p 25 (.ibin .add (t 21) (t 24)),
  p 11 (.mv (t 25))])
 (s (o [p 26 (.mv (t 1)),
  p 27 (.mv (t 8)),
  p 28 (.ibin .quo (t 27) (ii 4)),
  p 29 (.ibin .mul (t 28) (ii 3)),
  p 30 (.ibin .add (t 26) (t 29)),
  p 12 (.mv (t 30))])
 (s (s (o [p 31 (.mv (t 8)),
  p 32 (.ibin .geq (t 31) (ii 8))])
 (EC.cond (t 32)
 (s (s (o [p 33 (.mv (t 8)),
  p 34 (.ibin .geq (t 33) (ii 50))])
 (EC.cond (t 34)
 (s (o [p 35 (.mv (t 0)),
  p 36 (.mv (t 10)),
  p 37 (.call 124 [(t 35), (t 36), (t 9)]),
  p 10 (.mv (t 37))])
 (s (o [p 38 (.mv (t 0)),
  p 39 (.mv (t 11)),
  p 40 (.call 124 [(t 38), (t 39), (t 9)]),
  p 11 (.mv (t 40))])
 (o [p 41 (.mv (t 0)),
  p 42 (.mv (t 12)),
  p 43 (.call 124 [(t 41), (t 42), (t 9)]),
  p 12 (.mv (t 43))])))
 (EC.skip)))
 (o [p 44 (.mv (t 0)),
  p 45 (.mv (t 10)),
  p 46 (.mv (t 11)),
  p 47 (.mv (t 12)),
  p 48 (.call 125 [(t 44), (t 45), (t 46), (t 47), (t 9)]),
  p 11 (.mv (t 48))]))
 (EC.skip)))
 (s (o [p 49 (.ld1 (t 9))])
 (EC.block 0 (s (o [p 52 (.ibin .eql (t 49) (ii 0)),
  p 51 (.mv (t 52))])
 (EC.cond (t 51)
 (s (o [p 53 (.mv (t 11)),
  p 6 (.mv (t 53)),
  p 7 (.mv (ii 1))])
 (EC.ret))
 (s (o [p 55 (.ibin .eql (t 49) (ii 12)),
  p 54 (.mv (t 55))])
 (EC.cond (t 54)
 (s (o [p 56 (.mv (t 11)),
  p 6 (.mv (t 56)),
  p 7 (.mv (ii 2))])
 (EC.ret))
 (s (o [p 50 (.mv (t 11)),
  p 6 (.mv (t 50)),
  p 7 (.mv (ii 0))])
 (EC.ret)))))))))))))))
 [.t 6, .t 7]
/- slices.reverseRangeOrdered[uint32] -/
noncomputable def e99 : EFunc := EFunc.mk 32 false
 (s (o [p 8 (.mv (t 1)),
  p 6 (.mv (t 8))])
 (s (o [p 9 (.mv (t 2)),
  p 10 (.ibin .sub (t 9) (ii 1)),
  p 7 (.mv (t 10))])
 (EC.block 0 (EC.loop (s (s (o [p 11 (.mv (t 6)),
  p 12 (.mv (t 7)),
  p 13 (.ibin .lss (t 11) (t 12))])
 (EC.cond (t 13)
 (EC.skip)
 (EC.exit 0)))
 (EC.block 1 (s (EC.draw 16 [w (some 14) none (.mv (t 0)) 0 0 0,
  w (some 15) none (.mv (t 6)) 0 0 1,
  w (some 16) none (.mv (t 0)) 0 1 2,
  w (some 17) none (.mv (t 7)) 0 1 3,
  w (some 18) none (.mv (t 0)) 0 0 4,
  w (some 19) none (.mv (t 7)) 0 0 5,
  w (some 20) none (.ia 1 (t 18) (t 19)) 0 0 6,
  w (some 21) none (.ld1 (t 20)) 0 0 7,
  w (some 22) none (.mv (t 0)) 0 0 8,
  w (some 23) none (.mv (t 6)) 0 0 9,
  w (some 24) none (.ia 1 (t 22) (t 23)) 0 0 10,
  w (some 25) none (.ld1 (t 24)) 0 0 11,
  w (some 26) none (.ia 1 (t 14) (t 15)) 0 0 12,
  w none none (.st 1 (t 26) (t 21)) 0 1 13,
  w (some 27) none (.ia 1 (t 16) (t 17)) 1 1 14,
  w none none (.st 1 (t 27) (t 25)) 1 2 15])
 (s (o [p 28 (.mv (t 6)),
  p 29 (.ibin .add (t 28) (ii 1)),
  p 6 (.mv (t 29))])
 (o [p 30 (.mv (t 7)),
  p 31 (.ibin .sub (t 30) (ii 1)),
  p 7 (.mv (t 31))])))))))))
 []
/- slices.partialInsertionSortOrdered[uint32] -/
noncomputable def e100 : EFunc := EFunc.mk 133 false
 (s (o [p 6 (.mv (.c (.bool false)))])
 (s (o [p 11 (.mv (t 1)),
  p 12 (.ibin .add (t 11) (ii 1)),
  p 7 (.mv (t 12))])
 (s (s (o [p 8 (.mv (ii 0))])
 (EC.block 0 (EC.loop (s (s (o [p 13 (.mv (t 8)),
  p 14 (.ibin .lss (t 13) (ii 5))])
 (EC.cond (t 14)
 (EC.skip)
 (EC.exit 0)))
 (s (EC.block 1 (s (EC.block 2 (EC.loop (s (s (EC.draw 16 [w (some 17) none (.mv (t 7)) 0 0 0,
  w (some 18) none (.mv (t 2)) 0 0 1,
  w (some 19) none (.ibin .lss (t 17) (t 18)) 0 0 2,
  w (some 20) none (.mv (t 19)) 0 0 3,
  w (some 21) (some (20, true)) (.mv (t 0)) 0 0 4,
  w (some 22) (some (20, true)) (.mv (t 7)) 0 0 5,
  w (some 23) (some (20, true)) (.ia 1 (t 21) (t 22)) 0 0 6,
  w (some 24) (some (20, true)) (.ld1 (t 23)) 0 0 7,
  w (some 25) (some (20, true)) (.mv (t 0)) 0 0 8,
  w (some 26) (some (20, true)) (.mv (t 7)) 0 0 9,
  w (some 27) (some (20, true)) (.ibin .sub (t 26) (ii 1)) 0 0 10,
  w (some 28) (some (20, true)) (.ia 1 (t 25) (t 27)) 0 0 11,
  w (some 29) (some (20, true)) (.ld1 (t 28)) 0 0 12,
  w (some 30) (some (20, true)) (.pcall 101 [(t 24), (t 29)]) 0 0 13,
  w (some 31) (some (20, true)) (.un .not (t 30)) 0 0 14,
  w (some 32) none (.pick (t 20) (t 31) (.c (.bool false))) 0 0 15])
 (EC.cond (t 32)
 (EC.skip)
 (EC.exit 2)))
 (EC.block 3 (o [p 33 (.mv (t 7)),
  p 34 (.ibin .add (t 33) (ii 1)),
  p 7 (.mv (t 34))])))))
 (s (s (o [p 35 (.mv (t 7)),
  p 36 (.mv (t 2)),
  p 37 (.ibin .eql (t 35) (t 36))])
 (EC.cond (t 37)
 (s (o [p 6 (.mv (.c (.bool true)))])
 (EC.ret))
 (EC.skip)))
 (s (s (o [p 38 (.mv (t 2)),
  p 39 (.mv (t 1)),
  p 40 (.ibin .sub (t 38) (t 39)),
  p 41 (.ibin .lss (t 40) (ii 50))])
 (EC.cond (t 41)
 (s (o [p 6 (.mv (.c (.bool false)))])
 (EC.ret))
 (EC.skip)))
 (s (EC.draw 18 [w (some 42) none (.mv (t 0)) 0 0 0,
  w (some 43) none (.mv (t 7)) 0 0 1,
  w (some 44) none (.mv (t 0)) 0 1 2,
  w (some 45) none (.mv (t 7)) 0 1 3,
  w (some 46) none (.ibin .sub (t 45) (ii 1)) 0 1 4,
  w (some 47) none (.mv (t 0)) 0 0 5,
  w (some 48) none (.mv (t 7)) 0 0 6,
  w (some 49) none (.ibin .sub (t 48) (ii 1)) 0 0 7,
  w (some 50) none (.ia 1 (t 47) (t 49)) 0 0 8,
  w (some 51) none (.ld1 (t 50)) 0 0 9,
  w (some 52) none (.mv (t 0)) 0 0 10,
  w (some 53) none (.mv (t 7)) 0 0 11,
  w (some 54) none (.ia 1 (t 52) (t 53)) 0 0 12,
  w (some 55) none (.ld1 (t 54)) 0 0 13,
  w (some 56) none (.ia 1 (t 42) (t 43)) 0 0 14,
  w none none (.st 1 (t 56) (t 51)) 0 1 15,
  w (some 57) none (.ia 1 (t 44) (t 46)) 1 1 16,
  w none none (.st 1 (t 57) (t 55)) 1 2 17])
 (s (s (o [p 58 (.mv (t 7)),
  p 59 (.mv (t 1)),
  p 60 (.ibin .sub (t 58) (t 59)),
  p 61 (.ibin .geq (t 60) (ii 2))])
 (EC.cond (t 61)
 (s (o [p 62 (.mv (t 7)),
  p 63 (.ibin .sub (t 62) (ii 1)),
  p 9 (.mv (t 63))])
 (EC.block 4 (EC.loop (s (s (o [p 64 (.mv (t 9)),
  p 65 (.ibin .geq (t 64) (ii 1))])
 (EC.cond (t 65)
 (EC.skip)
 (EC.exit 4)))
 (s (EC.block 5 (s (s (EC.draw 11 [w (some 68) none (.mv (t 0)) 0 0 0,
  w (some 69) none (.mv (t 9)) 0 0 1,
  w (some 70) none (.ia 1 (t 68) (t 69)) 0 0 2,
  w (some 71) none (.ld1 (t 70)) 0 0 3,
  w (some 72) none (.mv (t 0)) 0 0 4,
  w (some 73) none (.mv (t 9)) 0 0 5,
  w (some 74) none (.ibin .sub (t 73) (ii 1)) 0 0 6,
  w (some 75) none (.ia 1 (t 72) (t 74)) 0 0 7,
  w (some 76) none (.ld1 (t 75)) 0 0 8,
  w (some 77) none (.pcall 101 [(t 71), (t 76)]) 0 0 9,
  w (some 78) none (.un .not (t 77)) 0 0 10])
 (EC.cond (t 78)
 (EC.exit 4)
 (EC.skip)))
 (EC.draw 18 [w (some 79) none (.mv (t 0)) 0 0 0,
  w (some 80) none (.mv (t 9)) 0 0 1,
  w (some 81) none (.mv (t 0)) 0 1 2,
  w (some 82) none (.mv (t 9)) 0 1 3,
  w (some 83) none (.ibin .sub (t 82) (ii 1)) 0 1 4,
  w (some 84) none (.mv (t 0)) 0 0 5,
  w (some 85) none (.mv (t 9)) 0 0 6,
  w (some 86) none (.ibin .sub (t 85) (ii 1)) 0 0 7,
  w (some 87) none (.ia 1 (t 84) (t 86)) 0 0 8,
  w (some 88) none (.ld1 (t 87)) 0 0 9,
  w (some 89) none (.mv (t 0)) 0 0 10,
  w (some 90) none (.mv (t 9)) 0 0 11,
  w (some 91) none (.ia 1 (t 89) (t 90)) 0 0 12,
  w (some 92) none (.ld1 (t 91)) 0 0 13,
  w (some 93) none (.ia 1 (t 79) (t 80)) 0 0 14,
  w none none (.st 1 (t 93) (t 88)) 0 1 15,
  w (some 94) none (.ia 1 (t 81) (t 83)) 1 1 16,
  w none none (.st 1 (t 94) (t 92)) 1 2 17])))
 (o [p 66 (.mv (t 9)),
  p 67 (.ibin .sub (t 66) (ii 1)),
  p 9 (.mv (t 67))]))))))
 (EC.skip)))
 (s (o [p 95 (.mv (t 2)),
  p 96 (.mv (t 7)),
  p 97 (.ibin .sub (t 95) (t 96)),
  p 98 (.ibin .geq (t 97) (ii 2))])
 (EC.cond (t 98)
 (s (o [p 99 (.mv (t 7)),
  p 100 (.ibin .add (t 99) (ii 1)),
  p 10 (.mv (t 100))])
 (EC.block 6 (EC.loop (s (s (o [p 101 (.mv (t 10)),
  p 102 (.mv (t 2)),
  p 103 (.ibin .lss (t 101) (t 102))])
 (EC.cond (t 103)
 (EC.skip)
 (EC.exit 6)))
 (s (EC.block 7 (s (s (EC.draw 11 [w (some 106) none (.mv (t 0)) 0 0 0,
  w (some 107) none (.mv (t 10)) 0 0 1,
  w (some 108) none (.ia 1 (t 106) (t 107)) 0 0 2,
  w (some 109) none (.ld1 (t 108)) 0 0 3,
  w (some 110) none (.mv (t 0)) 0 0 4,
  w (some 111) none (.mv (t 10)) 0 0 5,
  w (some 112) none (.ibin .sub (t 111) (ii 1)) 0 0 6,
  w (some 113) none (.ia 1 (t 110) (t 112)) 0 0 7,
  w (some 114) none (.ld1 (t 113)) 0 0 8,
  w (some 115) none (.pcall 101 [(t 109), (t 114)]) 0 0 9,
  w (some 116) none (.un .not (t 115)) 0 0 10])
 (EC.cond (t 116)
 (EC.exit 6)
 (EC.skip)))
 (EC.draw 18 [w (some 117) none (.mv (t 0)) 0 0 0,
  w (some 118) none (.mv (t 10)) 0 0 1,
  w (some 119) none (.mv (t 0)) 0 1 2,
  w (some 120) none (.mv (t 10)) 0 1 3,
  w (some 121) none (.ibin .sub (t 120) (ii 1)) 0 1 4,
  w (some 122) none (.mv (t 0)) 0 0 5,
  w (some 123) none (.mv (t 10)) 0 0 6,
  w (some 124) none (.ibin .sub (t 123) (ii 1)) 0 0 7,
  w (some 125) none (.ia 1 (t 122) (t 124)) 0 0 8,
  w (some 126) none (.ld1 (t 125)) 0 0 9,
  w (some 127) none (.mv (t 0)) 0 0 10,
  w (some 128) none (.mv (t 10)) 0 0 11,
  w (some 129) none (.ia 1 (t 127) (t 128)) 0 0 12,
  w (some 130) none (.ld1 (t 129)) 0 0 13,
  w (some 131) none (.ia 1 (t 117) (t 118)) 0 0 14,
  w none none (.st 1 (t 131) (t 126)) 0 1 15,
  w (some 132) none (.ia 1 (t 119) (t 121)) 1 1 16,
  w none none (.st 1 (t 132) (t 130)) 1 2 17])))
 (o [p 104 (.mv (t 10)),
  p 105 (.ibin .add (t 104) (ii 1)),
  p 10 (.mv (t 105))]))))))
 (EC.skip)))))))))
 (o [p 15 (.mv (t 8)),
  p 16 (.ibin .add (t 15) (ii 1)),
  p 8 (.mv (t 16))]))))))
 (s (o [p 6 (.mv (.c (.bool false)))])
 (EC.ret)))))
 [.t 6]
/- cmp.Less[uint32] -/
noncomputable def e101 : EFunc := EFunc.mk 17 true
 (s (o [p 4 (.mv (.c (.bool false)))])
 (s (o [p 5 (.mv (t 0)),
  p 6 (.pcall 126 [(t 5)]),
  p 7 (.mv (t 6)),
  w (some 8) (some (7, true)) (.mv (t 1)) 0 0 0,
  w (some 9) (some (7, true)) (.pcall 126 [(t 8)]) 0 0 0,
  w (some 10) (some (7, true)) (.un .not (t 9)) 0 0 0,
  p 11 (.pick (t 7) (t 10) (.c (.bool false))),
  p 12 (.mv (t 11)),
  w (some 13) (some (12, false)) (.mv (t 0)) 0 0 0,
  w (some 14) (some (12, false)) (.mv (t 1)) 0 0 0,
  w (some 15) (some (12, false)) (.ibin .lss (t 13) (t 14)) 0 0 0,
  p 16 (.pick (t 12) (.c (.bool true)) (t 15)),
  p 4 (.mv (t 16))])
 (EC.ret)))
 [.t 4]
/- slices.partitionEqualOrdered[uint32] -/
noncomputable def e102 : EFunc := EFunc.mk 84 false
 (s (o [p 8 (.mv (ii 0))])
 (s (EC.draw 16 [w (some 11) none (.mv (t 0)) 0 0 0,
  w (some 12) none (.mv (t 1)) 0 0 1,
  w (some 13) none (.mv (t 0)) 0 1 2,
  w (some 14) none (.mv (t 3)) 0 1 3,
  w (some 15) none (.mv (t 0)) 0 0 4,
  w (some 16) none (.mv (t 3)) 0 0 5,
  w (some 17) none (.ia 1 (t 15) (t 16)) 0 0 6,
  w (some 18) none (.ld1 (t 17)) 0 0 7,
  w (some 19) none (.mv (t 0)) 0 0 8,
  w (some 20) none (.mv (t 1)) 0 0 9,
  w (some 21) none (.ia 1 (t 19) (t 20)) 0 0 10,
  w (some 22) none (.ld1 (t 21)) 0 0 11,
  w (some 23) none (.ia 1 (t 11) (t 12)) 0 0 12,
  w none none (.st 1 (t 23) (t 18)) 0 1 13,
  w (some 24) none (.ia 1 (t 13) (t 14)) 1 1 14,
  w none none (.st 1 (t 24) (t 22)) 1 2 15])
 (s (o [p 25 (.mv (t 1)),
  p 26 (.ibin .add (t 25) (ii 1)),
  p 27 (.mv (t 2)),
  p 28 (.ibin .sub (t 27) (ii 1)),
  p 9 (.mv (t 26)),
  p 10 (.mv (t 28))])
 (s (EC.block 0 (EC.loop (EC.block 1 (s (EC.block 2 (EC.loop (s (s (EC.draw 15 [w (some 29) none (.mv (t 9)) 0 0 0,
  w (some 30) none (.mv (t 10)) 0 0 1,
  w (some 31) none (.ibin .leq (t 29) (t 30)) 0 0 2,
  w (some 32) none (.mv (t 31)) 0 0 3,
  w (some 33) (some (32, true)) (.mv (t 0)) 0 0 4,
  w (some 34) (some (32, true)) (.mv (t 1)) 0 0 5,
  w (some 35) (some (32, true)) (.ia 1 (t 33) (t 34)) 0 0 6,
  w (some 36) (some (32, true)) (.ld1 (t 35)) 0 0 7,
  w (some 37) (some (32, true)) (.mv (t 0)) 0 0 8,
  w (some 38) (some (32, true)) (.mv (t 9)) 0 0 9,
  w (some 39) (some (32, true)) (.ia 1 (t 37) (t 38)) 0 0 10,
  w (some 40) (some (32, true)) (.ld1 (t 39)) 0 0 11,
  w (some 41) (some (32, true)) (.pcall 101 [(t 36), (t 40)]) 0 0 12,
  w (some 42) (some (32, true)) (.un .not (t 41)) 0 0 13,
  w (some 43) none (.pick (t 32) (t 42) (.c (.bool false))) 0 0 14])
 (EC.cond (t 43)
 (EC.skip)
 (EC.exit 2)))
 (EC.block 3 (o [p 44 (.mv (t 9)),
  p 45 (.ibin .add (t 44) (ii 1)),
  p 9 (.mv (t 45))])))))
 (s (EC.block 4 (EC.loop (s (s (EC.draw 14 [w (some 46) none (.mv (t 9)) 0 0 0,
  w (some 47) none (.mv (t 10)) 0 0 1,
  w (some 48) none (.ibin .leq (t 46) (t 47)) 0 0 2,
  w (some 49) none (.mv (t 48)) 0 0 3,
  w (some 50) (some (49, true)) (.mv (t 0)) 0 0 4,
  w (some 51) (some (49, true)) (.mv (t 1)) 0 0 5,
  w (some 52) (some (49, true)) (.ia 1 (t 50) (t 51)) 0 0 6,
  w (some 53) (some (49, true)) (.ld1 (t 52)) 0 0 7,
  w (some 54) (some (49, true)) (.mv (t 0)) 0 0 8,
  w (some 55) (some (49, true)) (.mv (t 10)) 0 0 9,
  w (some 56) (some (49, true)) (.ia 1 (t 54) (t 55)) 0 0 10,
  w (some 57) (some (49, true)) (.ld1 (t 56)) 0 0 11,
  w (some 58) (some (49, true)) (.pcall 101 [(t 53), (t 57)]) 0 0 12,
  w (some 59) none (.pick (t 49) (t 58) (.c (.bool false))) 0 0 13])
 (EC.cond (t 59)
 (EC.skip)
 (EC.exit 4)))
 (EC.block 5 (o [p 60 (.mv (t 10)),
  p 61 (.ibin .sub (t 60) (ii 1)),
  p 10 (.mv (t 61))])))))
 (s (s (o [p 62 (.mv (t 9)),
  p 63 (.mv (t 10)),
  p 64 (.ibin .gtr (t 62) (t 63))])
 (EC.cond (t 64)
 (EC.exit 0)
 (EC.skip)))
 (s (EC.draw 16 [w (some 65) none (.mv (t 0)) 0 0 0,
  w (some 66) none (.mv (t 9)) 0 0 1,
  w (some 67) none (.mv (t 0)) 0 1 2,
  w (some 68) none (.mv (t 10)) 0 1 3,
  w (some 69) none (.mv (t 0)) 0 0 4,
  w (some 70) none (.mv (t 10)) 0 0 5,
  w (some 71) none (.ia 1 (t 69) (t 70)) 0 0 6,
  w (some 72) none (.ld1 (t 71)) 0 0 7,
  w (some 73) none (.mv (t 0)) 0 0 8,
  w (some 74) none (.mv (t 9)) 0 0 9,
  w (some 75) none (.ia 1 (t 73) (t 74)) 0 0 10,
  w (some 76) none (.ld1 (t 75)) 0 0 11,
  w (some 77) none (.ia 1 (t 65) (t 66)) 0 0 12,
  w none none (.st 1 (t 77) (t 72)) 0 1 13,
  w (some 78) none (.ia 1 (t 67) (t 68)) 1 1 14,
  w none none (.st 1 (t 78) (t 76)) 1 2 15])
 (s (o [p 79 (.mv (t 9)),
  p 80 (.ibin .add (t 79) (ii 1)),
  p 9 (.mv (t 80))])
 (o [p 81 (.mv (t 10)),
  p 82 (.ibin .sub (t 81) (ii 1)),
  p 10 (.mv (t 82))])))))))))
 (s (o [p 83 (.mv (t 9)),
  p 8 (.mv (t 83))])
 (EC.ret))))))
 [.t 8]
/- slices.partitionOrdered[uint32] -/
noncomputable def e103 : EFunc := EFunc.mk 168 false
 (s (o [p 8 (.mv (ii 0)),
  p 9 (.mv (.c (.bool false)))])
 (s (EC.draw 16 [w (some 12) none (.mv (t 0)) 0 0 0,
  w (some 13) none (.mv (t 1)) 0 0 1,
  w (some 14) none (.mv (t 0)) 0 1 2,
  w (some 15) none (.mv (t 3)) 0 1 3,
  w (some 16) none (.mv (t 0)) 0 0 4,
  w (some 17) none (.mv (t 3)) 0 0 5,
  w (some 18) none (.ia 1 (t 16) (t 17)) 0 0 6,
  w (some 19) none (.ld1 (t 18)) 0 0 7,
  w (some 20) none (.mv (t 0)) 0 0 8,
  w (some 21) none (.mv (t 1)) 0 0 9,
  w (some 22) none (.ia 1 (t 20) (t 21)) 0 0 10,
  w (some 23) none (.ld1 (t 22)) 0 0 11,
  w (some 24) none (.ia 1 (t 12) (t 13)) 0 0 12,
  w none none (.st 1 (t 24) (t 19)) 0 1 13,
  w (some 25) none (.ia 1 (t 14) (t 15)) 1 1 14,
  w none none (.st 1 (t 25) (t 23)) 1 2 15])
 (s (o [p 26 (.mv (t 1)),
  p 27 (.ibin .add (t 26) (ii 1)),
  p 28 (.mv (t 2)),
  p 29 (.ibin .sub (t 28) (ii 1)),
  p 10 (.mv (t 27)),
  p 11 (.mv (t 29))])
 (s (EC.block 0 (EC.loop (s (s (EC.draw 14 [w (some 30) none (.mv (t 10)) 0 0 0,
  w (some 31) none (.mv (t 11)) 0 0 1,
  w (some 32) none (.ibin .leq (t 30) (t 31)) 0 0 2,
  w (some 33) none (.mv (t 32)) 0 0 3,
  w (some 34) (some (33, true)) (.mv (t 0)) 0 0 4,
  w (some 35) (some (33, true)) (.mv (t 10)) 0 0 5,
  w (some 36) (some (33, true)) (.ia 1 (t 34) (t 35)) 0 0 6,
  w (some 37) (some (33, true)) (.ld1 (t 36)) 0 0 7,
  w (some 38) (some (33, true)) (.mv (t 0)) 0 0 8,
  w (some 39) (some (33, true)) (.mv (t 1)) 0 0 9,
  w (some 40) (some (33, true)) (.ia 1 (t 38) (t 39)) 0 0 10,
  w (some 41) (some (33, true)) (.ld1 (t 40)) 0 0 11,
  w (some 42) (some (33, true)) (.pcall 101 [(t 37), (t 41)]) 0 0 12,
  w (some 43) none (.pick (t 33) (t 42) (.c (.bool false))) 0 0 13])
 (EC.cond (t 43)
 (EC.skip)
 (EC.exit 0)))
 (EC.block 1 (o [p 44 (.mv (t 10)),
  p 45 (.ibin .add (t 44) (ii 1)),
  p 10 (.mv (t 45))])))))
 (s (EC.block 2 (EC.loop (s (s (EC.draw 15 [w (some 46) none (.mv (t 10)) 0 0 0,
  w (some 47) none (.mv (t 11)) 0 0 1,
  w (some 48) none (.ibin .leq (t 46) (t 47)) 0 0 2,
  w (some 49) none (.mv (t 48)) 0 0 3,
  w (some 50) (some (49, true)) (.mv (t 0)) 0 0 4,
  w (some 51) (some (49, true)) (.mv (t 11)) 0 0 5,
  w (some 52) (some (49, true)) (.ia 1 (t 50) (t 51)) 0 0 6,
  w (some 53) (some (49, true)) (.ld1 (t 52)) 0 0 7,
  w (some 54) (some (49, true)) (.mv (t 0)) 0 0 8,
  w (some 55) (some (49, true)) (.mv (t 1)) 0 0 9,
  w (some 56) (some (49, true)) (.ia 1 (t 54) (t 55)) 0 0 10,
  w (some 57) (some (49, true)) (.ld1 (t 56)) 0 0 11,
  w (some 58) (some (49, true)) (.pcall 101 [(t 53), (t 57)]) 0 0 12,
  w (some 59) (some (49, true)) (.un .not (t 58)) 0 0 13,
  w (some 60) none (.pick (t 49) (t 59) (.c (.bool false))) 0 0 14])
 (EC.cond (t 60)
 (EC.skip)
 (EC.exit 2)))
 (EC.block 3 (o [p 61 (.mv (t 11)),
  p 62 (.ibin .sub (t 61) (ii 1)),
  p 11 (.mv (t 62))])))))
 (s (s (o [p 63 (.mv (t 10)),
  p 64 (.mv (t 11)),
  p 65 (.ibin .gtr (t 63) (t 64))])
 (EC.cond (t 65)
 (s (EC.draw 16 [w (some 66) none (.mv (t 0)) 0 0 0,
  w (some 67) none (.mv (t 11)) 0 0 1,
  w (some 68) none (.mv (t 0)) 0 1 2,
  w (some 69) none (.mv (t 1)) 0 1 3,
  w (some 70) none (.mv (t 0)) 0 0 4,
  w (some 71) none (.mv (t 1)) 0 0 5,
  w (some 72) none (.ia 1 (t 70) (t 71)) 0 0 6,
  w (some 73) none (.ld1 (t 72)) 0 0 7,
  w (some 74) none (.mv (t 0)) 0 0 8,
  w (some 75) none (.mv (t 11)) 0 0 9,
  w (some 76) none (.ia 1 (t 74) (t 75)) 0 0 10,
  w (some 77) none (.ld1 (t 76)) 0 0 11,
  w (some 78) none (.ia 1 (t 66) (t 67)) 0 0 12,
  w none none (.st 1 (t 78) (t 73)) 0 1 13,
  w (some 79) none (.ia 1 (t 68) (t 69)) 1 1 14,
  w none none (.st 1 (t 79) (t 77)) 1 2 15])
 (s (o [p 80 (.mv (t 11)),
  p 8 (.mv (t 80)),
  p 9 (.mv (.c (.bool true)))])
 (EC.ret)))
 (EC.skip)))
 (s (EC.draw 16 [w (some 81) none (.mv (t 0)) 0 0 0,
  w (some 82) none (.mv (t 10)) 0 0 1,
  w (some 83) none (.mv (t 0)) 0 1 2,
  w (some 84) none (.mv (t 11)) 0 1 3,
  w (some 85) none (.mv (t 0)) 0 0 4,
  w (some 86) none (.mv (t 11)) 0 0 5,
  w (some 87) none (.ia 1 (t 85) (t 86)) 0 0 6,
  w (some 88) none (.ld1 (t 87)) 0 0 7,
  w (some 89) none (.mv (t 0)) 0 0 8,
  w (some 90) none (.mv (t 10)) 0 0 9,
  w (some 91) none (.ia 1 (t 89) (t 90)) 0 0 10,
  w (some 92) none (.ld1 (t 91)) 0 0 11,
  w (some 93) none (.ia 1 (t 81) (t 82)) 0 0 12,
  w none none (.st 1 (t 93) (t 88)) 0 1 13,
  w (some 94) none (.ia 1 (t 83) (t 84)) 1 1 14,
  w none none (.st 1 (t 94) (t 92)) 1 2 15])
 (s (o [p 95 (.mv (t 10)),
  p 96 (.ibin .add (t 95) (ii 1)),
  p 10 (.mv (t 96))])
 (s (o [p 97 (.mv (t 11)),
  p 98 (.ibin .sub (t 97) (ii 1)),
  p 11 (.mv (t 98))])
 (s (EC.block 4 (EC.loop (EC.block 5 (s (EC.block 6 (EC.loop (s (s (EC.draw 14 [w (some 99) none (.mv (t 10)) 0 0 0,
  w (some 100) none (.mv (t 11)) 0 0 1,
  w (some 101) none (.ibin .leq (t 99) (t 100)) 0 0 2,
  w (some 102) none (.mv (t 101)) 0 0 3,
  w (some 103) (some (102, true)) (.mv (t 0)) 0 0 4,
  w (some 104) (some (102, true)) (.mv (t 10)) 0 0 5,
  w (some 105) (some (102, true)) (.ia 1 (t 103) (t 104)) 0 0 6,
  w (some 106) (some (102, true)) (.ld1 (t 105)) 0 0 7,
  w (some 107) (some (102, true)) (.mv (t 0)) 0 0 8,
  w (some 108) (some (102, true)) (.mv (t 1)) 0 0 9,
  w (some 109) (some (102, true)) (.ia 1 (t 107) (t 108)) 0 0 10,
  w (some 110) (some (102, true)) (.ld1 (t 109)) 0 0 11,
  w (some 111) (some (102, true)) (.pcall 101 [(t 106), (t 110)]) 0 0 12,
  w (some 112) none (.pick (t 102) (t 111) (.c (.bool false))) 0 0 13])
 (EC.cond (t 112)
 (EC.skip)
 (EC.exit 6)))
 (EC.block 7 (o [p 113 (.mv (t 10)),
  p 114 (.ibin .add (t 113) (ii 1)),
  p 10 (.mv (t 114))])))))
 (s (EC.block 8 (EC.loop (s (s (EC.draw 15 [w (some 115) none (.mv (t 10)) 0 0 0,
  w (some 116) none (.mv (t 11)) 0 0 1,
  w (some 117) none (.ibin .leq (t 115) (t 116)) 0 0 2,
  w (some 118) none (.mv (t 117)) 0 0 3,
  w (some 119) (some (118, true)) (.mv (t 0)) 0 0 4,
  w (some 120) (some (118, true)) (.mv (t 11)) 0 0 5,
  w (some 121) (some (118, true)) (.ia 1 (t 119) (t 120)) 0 0 6,
  w (some 122) (some (118, true)) (.ld1 (t 121)) 0 0 7,
  w (some 123) (some (118, true)) (.mv (t 0)) 0 0 8,
  w (some 124) (some (118, true)) (.mv (t 1)) 0 0 9,
  w (some 125) (some (118, true)) (.ia 1 (t 123) (t 124)) 0 0 10,
  w (some 126) (some (118, true)) (.ld1 (t 125)) 0 0 11,
  w (some 127) (some (118, true)) (.pcall 101 [(t 122), (t 126)]) 0 0 12,
  w (some 128) (some (118, true)) (.un .not (t 127)) 0 0 13,
  w (some 129) none (.pick (t 118) (t 128) (.c (.bool false))) 0 0 14])
 (EC.cond (t 129)
 (EC.skip)
 (EC.exit 8)))
 (EC.block 9 (o [p 130 (.mv (t 11)),
  p 131 (.ibin .sub (t 130) (ii 1)),
  p 11 (.mv (t 131))])))))
 (s (s (o [p 132 (.mv (t 10)),
  p 133 (.mv (t 11)),
  p 134 (.ibin .gtr (t 132) (t 133))])
 (EC.cond (t 134)
 (EC.exit 4)
 (EC.skip)))
 (s (EC.draw 16 [w (some 135) none (.mv (t 0)) 0 0 0,
  w (some 136) none (.mv (t 10)) 0 0 1,
  w (some 137) none (.mv (t 0)) 0 1 2,
  w (some 138) none (.mv (t 11)) 0 1 3,
  w (some 139) none (.mv (t 0)) 0 0 4,
  w (some 140) none (.mv (t 11)) 0 0 5,
  w (some 141) none (.ia 1 (t 139) (t 140)) 0 0 6,
  w (some 142) none (.ld1 (t 141)) 0 0 7,
  w (some 143) none (.mv (t 0)) 0 0 8,
  w (some 144) none (.mv (t 10)) 0 0 9,
  w (some 145) none (.ia 1 (t 143) (t 144)) 0 0 10,
  w (some 146) none (.ld1 (t 145)) 0 0 11,
  w (some 147) none (.ia 1 (t 135) (t 136)) 0 0 12,
  w none none (.st 1 (t 147) (t 142)) 0 1 13,
  w (some 148) none (.ia 1 (t 137) (t 138)) 1 1 14,
  w none none (.st 1 (t 148) (t 146)) 1 2 15])
 (s (o [p 149 (.mv (t 10)),
  p 150 (.ibin .add (t 149) (ii 1)),
  p 10 (.mv (t 150))])
 (o [p 151 (.mv (t 11)),
  p 152 (.ibin .sub (t 151) (ii 1)),
  p 11 (.mv (t 152))])))))))))
 (s (EC.draw 16 [w (some 153) none (.mv (t 0)) 0 0 0,
  w (some 154) none (.mv (t 11)) 0 0 1,
  w (some 155) none (.mv (t 0)) 0 1 2,
  w (some 156) none (.mv (t 1)) 0 1 3,
  w (some 157) none (.mv (t 0)) 0 0 4,
  w (some 158) none (.mv (t 1)) 0 0 5,
  w (some 159) none (.ia 1 (t 157) (t 158)) 0 0 6,
  w (some 160) none (.ld1 (t 159)) 0 0 7,
  w (some 161) none (.mv (t 0)) 0 0 8,
  w (some 162) none (.mv (t 11)) 0 0 9,
  w (some 163) none (.ia 1 (t 161) (t 162)) 0 0 10,
  w (some 164) none (.ld1 (t 163)) 0 0 11,
  w (some 165) none (.ia 1 (t 153) (t 154)) 0 0 12,
  w none none (.st 1 (t 165) (t 160)) 0 1 13,
  w (some 166) none (.ia 1 (t 155) (t 156)) 1 1 14,
  w none none (.st 1 (t 166) (t 164)) 1 2 15])
 (s (o [p 167 (.mv (t 11)),
  p 8 (.mv (t 167)),
  p 9 (.mv (.c (.bool false)))])
 (EC.ret)))))))))))))
 [.t 8, .t 9]
/- math/bits.Len32 -/
noncomputable def e104 : EFunc := EFunc.mk 19 true
 (s (o [p 2 (.mv (ii 0))])
 (s (s (o [p 3 (.mv (t 0)),
  p 4 (.ibin .geq (t 3) (.c (.int .u32 65536)))])
 (EC.cond (t 4)
 (s (o [p 5 (.mv (t 0)),
  p 6 (.ibin .shr (t 5) (.c (.int .u64 16))),
  p 0 (.mv (t 6))])
 (o [p 2 (.mv (ii 16))]))
 (EC.skip)))
 (s (s (o [p 7 (.mv (t 0)),
  p 8 (.ibin .geq (t 7) (.c (.int .u32 256)))])
 (EC.cond (t 8)
 (s (o [p 9 (.mv (t 0)),
  p 10 (.ibin .shr (t 9) (.c (.int .u64 8))),
  p 0 (.mv (t 10))])
 (o [p 11 (.mv (t 2)),
  p 12 (.ibin .add (t 11) (ii 8)),
  p 2 (.mv (t 12))]))
 (EC.skip)))
 (s (o [p 13 (.mv (t 2)),
  p 14 (.mv (t 0)),
  p 15 (.cvI .u8 (t 14)),
  p 16 (.ixS (.c (.str [0, 1, 2, 2, 3, 3, 3, 3, 4, 4, 4, 4, 4, 4, 4, 4, 5, 5, 5, 5, 5, 5, 5, 5, 5, 5, 5, 5, 5, 5, 5, 5, 6, 6, 6, 6, 6, 6, 6, 6, 6, 6, 6, 6, 6, 6, 6, 6, 6, 6, 6, 6, 6, 6, 6, 6, 6, 6, 6, 6, 6, 6, 6, 6, 7, 7, 7, 7, 7, 7, 7, 7, 7, 7, 7, 7, 7, 7, 7, 7, 7, 7, 7, 7, 7, 7, 7, 7, 7, 7, 7, 7, 7, 7, 7, 7, 7, 7, 7, 7, 7, 7, 7, 7, 7, 7, 7, 7, 7, 7, 7, 7, 7, 7, 7, 7, 7, 7, 7, 7, 7, 7, 7, 7, 7, 7, 7, 7, 8, 8, 8, 8, 8, 8, 8, 8, 8, 8, 8, 8, 8, 8, 8, 8, 8, 8, 8, 8, 8, 8, 8, 8, 8, 8, 8, 8, 8, 8, 8, 8, 8, 8, 8, 8, 8, 8, 8, 8, 8, 8, 8, 8, 8, 8, 8, 8, 8, 8, 8, 8, 8, 8, 8, 8, 8, 8, 8, 8, 8, 8, 8, 8, 8, 8, 8, 8, 8, 8, 8, 8, 8, 8, 8, 8, 8, 8, 8, 8, 8, 8, 8, 8, 8, 8, 8, 8, 8, 8, 8, 8, 8, 8, 8, 8, 8, 8, 8, 8, 8, 8, 8, 8, 8, 8, 8, 8, 8, 8, 8, 8, 8, 8, 8, 8, 8, 8, 8, 8, 8, 8, 8, 8, 8, 8, 8, 8])) (t 15)),
  p 17 (.cvI .i64 (t 16)),
  p 18 (.ibin .add (t 13) (t 17)),
  p 2 (.mv (t 18))])
 (EC.ret)))))
 [.t 2]
/- math/bits.Len64 -/
noncomputable def e105 : EFunc := EFunc.mk 25 true
 (s (o [p 2 (.mv (ii 0))])
 (s (s (o [p 3 (.mv (t 0)),
  p 4 (.ibin .geq (t 3) (.c (.int .u64 4294967296)))])
 (EC.cond (t 4)
 (s (o [p 5 (.mv (t 0)),
  p 6 (.ibin .shr (t 5) (.c (.int .u64 32))),
  p 0 (.mv (t 6))])
 (o [p 2 (.mv (ii 32))]))
 (EC.skip)))
 (s (s (o [p 7 (.mv (t 0)),
  p 8 (.ibin .geq (t 7) (.c (.int .u64 65536)))])
 (EC.cond (t 8)
 (s (o [p 9 (.mv (t 0)),
  p 10 (.ibin .shr (t 9) (.c (.int .u64 16))),
  p 0 (.mv (t 10))])
 (o [p 11 (.mv (t 2)),
  p 12 (.ibin .add (t 11) (ii 16)),
  p 2 (.mv (t 12))]))
 (EC.skip)))
 (s (s (o [p 13 (.mv (t 0)),
  p 14 (.ibin .geq (t 13) (.c (.int .u64 256)))])
 (EC.cond (t 14)
 (s (o [p 15 (.mv (t 0)),
  p 16 (.ibin .shr (t 15) (.c (.int .u64 8))),
  p 0 (.mv (t 16))])
 (o [p 17 (.mv (t 2)),
  p 18 (.ibin .add (t 17) (ii 8)),
  p 2 (.mv (t 18))]))
 (EC.skip)))
 (s (o [p 19 (.mv (t 2)),
  p 20 (.mv (t 0)),
  p 21 (.cvI .u8 (t 20)),
  p 22 (.ixS (.c (.str [0, 1, 2, 2, 3, 3, 3, 3, 4, 4, 4, 4, 4, 4, 4, 4, 5, 5, 5, 5, 5, 5, 5, 5, 5, 5, 5, 5, 5, 5, 5, 5, 6, 6, 6, 6, 6, 6, 6, 6, 6, 6, 6, 6, 6, 6, 6, 6, 6, 6, 6, 6, 6, 6, 6, 6, 6, 6, 6, 6, 6, 6, 6, 6, 7, 7, 7, 7, 7, 7, 7, 7, 7, 7, 7, 7, 7, 7, 7, 7, 7, 7, 7, 7, 7, 7, 7, 7, 7, 7, 7, 7, 7, 7, 7, 7, 7, 7, 7, 7, 7, 7, 7, 7, 7, 7, 7, 7, 7, 7, 7, 7, 7, 7, 7, 7, 7, 7, 7, 7, 7, 7, 7, 7, 7, 7, 7, 7, 8, 8, 8, 8, 8, 8, 8, 8, 8, 8, 8, 8, 8, 8, 8, 8, 8, 8, 8, 8, 8, 8, 8, 8, 8, 8, 8, 8, 8, 8, 8, 8, 8, 8, 8, 8, 8, 8, 8, 8, 8, 8, 8, 8, 8, 8, 8, 8, 8, 8, 8, 8, 8, 8, 8, 8, 8, 8, 8, 8, 8, 8, 8, 8, 8, 8, 8, 8, 8, 8, 8, 8, 8, 8, 8, 8, 8, 8, 8, 8, 8, 8, 8, 8, 8, 8, 8, 8, 8, 8, 8, 8, 8, 8, 8, 8, 8, 8, 8, 8, 8, 8, 8, 8, 8, 8, 8, 8, 8, 8, 8, 8, 8, 8, 8, 8, 8, 8, 8, 8, 8, 8, 8, 8, 8, 8, 8, 8])) (t 21)),
  p 23 (.cvI .i64 (t 22)),
  p 24 (.ibin .add (t 19) (t 23)),
  p 2 (.mv (t 24))])
 (EC.ret))))))
 [.t 2]
/- glowworm/qos.in -/
noncomputable def e106 : EFunc := EFunc.mk 12 true
 (s (o [p 4 (.mv (.c (.bool false)))])
 (s (o [p 5 (.mv (t 0)),
  p 6 (.ibin .geq (t 5) (ii 1)),
  p 7 (.mv (t 6)),
  w (some 8) (some (7, true)) (.mv (t 0)) 0 0 0,
  w (some 9) (some (7, true)) (.mv (t 1)) 0 0 0,
  w (some 10) (some (7, true)) (.ibin .leq (t 8) (t 9)) 0 0 0,
  p 11 (.pick (t 7) (t 10) (.c (.bool false))),
  p 4 (.mv (t 11))])
 (EC.ret)))
 [.t 4]
/- glowworm/qos.of -/
noncomputable def e107 : EFunc := EFunc.mk 17 false
 (s (o [p 4 (.mv (ii 0))])
 (s (s (o [p 5 (.mv (t 0)),
  p 6 (.ibin .lss (t 5) (ii 0)),
  p 7 (.mv (t 6)),
  w (some 8) (some (7, false)) (.mv (t 0)) 0 0 0,
  w (some 9) (some (7, false)) (.mv (t 1)) 0 0 0,
  w (some 10) (some (7, false)) (.len (t 9)) 0 0 0,
  w (some 11) (some (7, false)) (.ibin .geq (t 8) (t 10)) 0 0 0,
  p 12 (.pick (t 7) (.c (.bool true)) (t 11))])
 (EC.cond (t 12)
 (s (o [p 4 (.mv (ii 0))])
 (EC.ret))
 (EC.skip)))
 (s (o [p 13 (.mv (t 1)),
  p 14 (.mv (t 0)),
  p 15 (.ia 1 (t 13) (t 14)),
  p 16 (.ld1 (t 15)),
  p 4 (.mv (t 16))])
 (EC.ret))))
 [.t 4]
/- glowworm/setup.named -/
noncomputable def e108 : EFunc := EFunc.mk 9 true
 (s (o [p 2 (.mv (.c (.bool false)))])
 (s (o [p 3 (.mv (t 0)),
  p 4 (.ibin .neq (t 3) (.c (.int .u32 0))),
  p 5 (.mv (t 4)),
  w (some 6) (some (5, true)) (.mv (t 0)) 0 0 0,
  w (some 7) (some (5, true)) (.ibin .neq (t 6) (.c (.int .u32 4294967295))) 0 0 0,
  p 8 (.pick (t 5) (t 7) (.c (.bool false))),
  p 2 (.mv (t 8))])
 (EC.ret)))
 [.t 2]
/- glowworm/frame.All -/
noncomputable def e109 : EFunc := EFunc.mk 2 true
 (s (o [p 0 (.new [(.int .i64 0), (.int .i64 0)])])
 (s (o [p 1 (.build [(.int .i64 0), (.int .i64 0)] [(0, 1, (ii 127)), (1, 1, (ii 255))]),
  q (.st 2 (t 0) (t 1))])
 (EC.ret)))
 [.cn 0 2]
/- glowworm/frame.Put -/
noncomputable def e110 : EFunc := EFunc.mk 35 false
 (s (o [p 1 (.box (t 0)),
  p 2 (.mv (.c .nils)),
  p 3 (.mv (.c (.bool false)))])
 (s (s (o [p 7 (.ldn 5 (t 1)),
  p 8 (.pcall 127 [(t 7)]),
  p 9 (.un .not (t 8))])
 (EC.cond (t 9)
 (s (o [p 2 (.mv (.c .nils)),
  p 3 (.mv (.c (.bool false)))])
 (EC.ret))
 (EC.skip)))
 (s (o [p 11 (.fa 3 (t 1)),
  p 12 (.ld1 (t 11)),
  p 13 (.pcall 128 [(t 12)]),
  p 10 (.mv (t 13)),
  p 14 (.ext (t 10) 0),
  p 15 (.ext (t 10) 1),
  p 4 (.mv (t 14)),
  p 5 (.mv (t 15))])
 (s (o [p 16 (.fa 0 (t 1)),
  p 17 (.fa 0 (t 16)),
  p 18 (.ld1 (t 17)),
  p 19 (.ibin .mul (t 18) (ii 2)),
  p 6 (.mv (t 19))])
 (s (s (o [p 20 (.fa 2 (t 1)),
  p 21 (.ld1 (t 20))])
 (EC.cond (t 21)
 (o [p 22 (.mv (t 6)),
  p 23 (.ibin .add (t 22) (ii 1)),
  p 6 (.mv (t 23))])
 (EC.skip)))
 (s (o [p 24 (.mv (t 6)),
  p 25 (.cvI .u8 (t 24)),
  p 26 (.fa 0 (t 1)),
  p 27 (.fa 1 (t 26)),
  p 28 (.ld1 (t 27)),
  p 29 (.cvI .u8 (t 28)),
  p 30 (.mv (t 4)),
  p 31 (.bslice 1 3 [(.int .u8 0), (.int .u8 0), (.int .u8 0)] [(0, 1, (t 25)), (1, 1, (t 29)), (2, 1, (t 30))]),
  p 32 (.fa 4 (t 1)),
  p 33 (.ld1 (t 32)),
  p 34 (.app 1 1 (t 31) (t 33)),
  p 2 (.mv (t 34)),
  p 3 (.mv (.c (.bool true)))])
 (EC.ret)))))))
 [.t 2, .t 3]
/- glowworm/frame.Get -/
noncomputable def e111 : EFunc := EFunc.mk 47 false
 (s (o [p 2 (.new [(.int .i64 0), (.int .i64 0), (.bool false), .nilI, (.str [])]),
  p 3 (.mv (.c (.bool false)))])
 (s (s (o [p 7 (.mv (t 0)),
  p 8 (.len (t 7)),
  p 9 (.ibin .lss (t 8) (ii 3))])
 (EC.cond (t 9)
 (s (o [p 10 (.build [(.int .i64 0), (.int .i64 0), (.bool false), .nilI, (.str [])] []),
  q (.st 5 (t 2) (t 10)),
  p 3 (.mv (.c (.bool false)))])
 (EC.ret))
 (EC.skip)))
 (s (o [p 12 (.mv (t 0)),
  p 13 (.ia 1 (t 12) (ii 2)),
  p 14 (.ld1 (t 13)),
  p 15 (.pcall 114 [(t 14)]),
  p 11 (.mv (t 15)),
  p 16 (.ext (t 11) 0),
  p 17 (.ext (t 11) 1),
  p 4 (.mv (t 16)),
  p 5 (.mv (t 17))])
 (s (EC.draw 22 [w (some 18) none (.mv (t 0)) 0 0 0,
  w (some 19) none (.ia 1 (t 18) (ii 0)) 0 0 1,
  w (some 20) none (.ld1 (t 19)) 0 0 2,
  w (some 21) none (.ibin .quo (t 20) (.c (.int .u8 2))) 0 0 3,
  w (some 22) none (.cvI .i64 (t 21)) 0 0 4,
  w (some 23) none (.mv (t 0)) 0 0 5,
  w (some 24) none (.ia 1 (t 23) (ii 1)) 0 0 6,
  w (some 25) none (.ld1 (t 24)) 0 0 7,
  w (some 26) none (.cvI .i64 (t 25)) 0 0 8,
  w (some 27) none (.build [(.int .i64 0), (.int .i64 0)] [(0, 1, (t 22)), (1, 1, (t 26))]) 0 0 9,
  w (some 28) none (.mv (t 0)) 0 0 10,
  w (some 29) none (.ia 1 (t 28) (ii 0)) 0 0 11,
  w (some 30) none (.ld1 (t 29)) 0 0 12,
  w (some 31) none (.ibin .rem (t 30) (.c (.int .u8 2))) 0 0 13,
  w (some 32) none (.ibin .eql (t 31) (.c (.int .u8 1))) 0 0 14,
  w (some 33) none (.mv (t 4)) 0 0 15,
  w (some 34) none (.mv (t 0)) 0 0 16,
  w (some 35) none (.slL 1 (t 34) (some (ii 3)) none none) 0 0 17,
  w (some 36) none (.cvBS (t 35)) 0 0 18,
  w (some 37) none (.build [(.int .i64 0), (.int .i64 0), (.bool false), .nilI, (.str [])] [(0, 2, (t 27)), (2, 1, (t 32)), (3, 1, (t 33)), (4, 1, (t 36))]) 0 0 19,
  w (some 6) none (.new [(.int .i64 0), (.int .i64 0), (.bool false), .nilI, (.str [])]) 0 0 20,
  w none none (.st 5 (t 6) (t 37)) 0 1 21])
 (s (s (o [p 38 (.mv (t 5)),
  p 39 (.un .not (t 38)),
  p 40 (.mv (t 39)),
  w (some 41) (some (40, false)) (.ldn 5 (t 6)) 0 0 0,
  w (some 42) (some (40, false)) (.pcall 127 [(t 41)]) 0 0 0,
  w (some 43) (some (40, false)) (.un .not (t 42)) 0 0 0,
  p 44 (.pick (t 40) (.c (.bool true)) (t 43))])
 (EC.cond (t 44)
 (s (o [p 45 (.build [(.int .i64 0), (.int .i64 0), (.bool false), .nilI, (.str [])] []),
  q (.st 5 (t 2) (t 45)),
  p 3 (.mv (.c (.bool false)))])
 (EC.ret))
 (EC.skip)))
 (s (o [p 46 (.ldn 5 (t 6)),
  q (.st 5 (t 2) (t 46)),
  p 3 (.mv (.c (.bool true)))])
 (EC.ret)))))))
 [.cn 2 5, .t 3]
/- glowworm/frame.Plain -/
noncomputable def e112 : EFunc := EFunc.mk 51 true
 (s (o [p 1 (.box (t 0)),
  p 2 (.new [(.int .i64 0), (.int .i64 0), (.bool false), (.int .i64 0), (.int .i64 0), (.int .i64 0), (.int .i64 0), (.bool false), (.str [])])])
 (s (s (o [p 7 (.ldn 5 (t 1)),
  p 8 (.pcall 127 [(t 7)]),
  p 9 (.un .not (t 8))])
 (EC.cond (t 9)
 (s (o [p 10 (.build [(.int .i64 0), (.int .i64 0), (.bool false), (.int .i64 0), (.int .i64 0), (.int .i64 0), (.int .i64 0), (.bool false), (.str [])] []),
  q (.st 9 (t 2) (t 10))])
 (EC.ret))
 (EC.skip)))
 (s (EC.draw 12 [w (some 11) none (.fa 0 (t 1)) 0 0 0,
  w (some 12) none (.ldn 2 (t 11)) 0 0 1,
  w (some 13) none (.fa 2 (t 1)) 0 0 2,
  w (some 14) none (.ld1 (t 13)) 0 0 3,
  w (some 15) none (.fa 4 (t 1)) 0 0 4,
  w (some 16) none (.ld1 (t 15)) 0 0 5,
  w (some 17) none (.fa 3 (t 1)) 0 0 6,
  w (some 18) none (.ld1 (t 17)) 0 0 7,
  w (some 19) none (.pcall 129 [(t 18)]) 0 0 8,
  w (some 20) none (.build [(.int .i64 0), (.int .i64 0), (.bool false), (.int .i64 0), (.int .i64 0), (.int .i64 0), (.int .i64 0), (.bool false), (.str [])] [(0, 2, (t 12)), (2, 1, (t 14)), (8, 1, (t 16)), (7, 1, (t 19))]) 0 0 9,
  w (some 3) none (.new [(.int .i64 0), (.int .i64 0), (.bool false), (.int .i64 0), (.int .i64 0), (.int .i64 0), (.int .i64 0), (.bool false), (.str [])]) 0 0 10,
  w none none (.st 9 (t 3) (t 20)) 0 1 11])
 (s (s (o [p 21 (.fa 3 (t 1)),
  p 22 (.ld1 (t 21))])
 (EC.block 0 (s (o [p 23 (.tas 173 (.agg [(.int .i64 0), (.int .i64 0), (.bool false)]) true (t 22)),
  p 24 (.ext (t 23) 1),
  p 25 (.ext (t 23) 0)])
 (EC.cond (t 24)
 (s (o [p 4 (.new [(.int .i64 0), (.int .i64 0), (.bool false)]),
  q (.st 3 (t 4) (t 25))])
 (EC.draw 10 [w (some 26) none (.fa 0 (t 4)) 0 1 0,
  w (some 27) none (.ld1 (t 26)) 0 1 1,
  w (some 28) none (.fa 1 (t 4)) 0 2 2,
  w (some 29) none (.ld1 (t 28)) 0 2 3,
  w (some 30) none (.fa 3 (t 3)) 0 0 4,
  w none none (.st 1 (t 30) (ii 1)) 0 1 5,
  w (some 31) none (.fa 5 (t 3)) 1 1 6,
  w none none (.st 1 (t 31) (t 27)) 1 2 7,
  w (some 32) none (.fa 6 (t 3)) 2 2 8,
  w none none (.st 1 (t 32) (t 29)) 2 3 9]))
 (s (o [p 33 (.tas 189 (.agg [(.int .i64 0), (.int .i64 0), (.bool false)]) true (t 22)),
  p 34 (.ext (t 33) 1),
  p 35 (.ext (t 33) 0)])
 (EC.cond (t 34)
 (s (o [p 5 (.new [(.int .i64 0), (.int .i64 0), (.bool false)]),
  q (.st 3 (t 5) (t 35))])
 (EC.draw 10 [w (some 36) none (.fa 0 (t 5)) 0 1 0,
  w (some 37) none (.ld1 (t 36)) 0 1 1,
  w (some 38) none (.fa 1 (t 5)) 0 2 2,
  w (some 39) none (.ld1 (t 38)) 0 2 3,
  w (some 40) none (.fa 3 (t 3)) 0 0 4,
  w none none (.st 1 (t 40) (ii 2)) 0 1 5,
  w (some 41) none (.fa 4 (t 3)) 1 1 6,
  w none none (.st 1 (t 41) (t 37)) 1 2 7,
  w (some 42) none (.fa 5 (t 3)) 2 2 8,
  w none none (.st 1 (t 42) (t 39)) 2 3 9]))
 (s (o [p 43 (.tas 158 (.agg [(.int .i64 0), (.bool false)]) true (t 22)),
  p 44 (.ext (t 43) 1),
  p 45 (.ext (t 43) 0)])
 (EC.cond (t 44)
 (s (o [p 6 (.new [(.int .i64 0), (.bool false)]),
  q (.st 2 (t 6) (t 45))])
 (EC.draw 6 [w (some 46) none (.fa 0 (t 6)) 0 1 0,
  w (some 47) none (.ld1 (t 46)) 0 1 1,
  w (some 48) none (.fa 3 (t 3)) 0 0 2,
  w none none (.st 1 (t 48) (ii 3)) 0 1 3,
  w (some 49) none (.fa 4 (t 3)) 1 1 4,
  w none none (.st 1 (t 49) (t 47)) 1 2 5]))
 (EC.skip)))))))))
 (s (o [p 50 (.ldn 9 (t 3)),
  q (.st 9 (t 2) (t 50))])
 (EC.ret))))))
 [.cn 2 9]
/- glowworm/frame.Of -/
noncomputable def e113 : EFunc := EFunc.mk 56 true
 (s (o [p 1 (.box (t 0)),
  p 2 (.new [(.int .i64 0), (.int .i64 0), (.bool false), .nilI, (.str [])]),
  p 3 (.mv (.c (.bool false)))])
 (s (o [p 5 (.fa 0 (t 1)),
  p 6 (.ldn 2 (t 5)),
  p 7 (.fa 2 (t 1)),
  p 8 (.ld1 (t 7)),
  p 9 (.fa 8 (t 1)),
  p 10 (.ld1 (t 9)),
  p 11 (.build [(.int .i64 0), (.int .i64 0), (.bool false), .nilI, (.str [])] [(0, 2, (t 6)), (2, 1, (t 8)), (4, 1, (t 10))]),
  p 4 (.new [(.int .i64 0), (.int .i64 0), (.bool false), .nilI, (.str [])]),
  q (.st 5 (t 4) (t 11))])
 (s (s (o [p 12 (.fa 3 (t 1)),
  p 13 (.ld1 (t 12))])
 (EC.block 0 (s (o [p 15 (.ibin .eql (t 13) (ii 1)),
  p 14 (.mv (t 15))])
 (EC.cond (t 14)
 (o [p 16 (.fa 5 (t 1)),
  p 17 (.ld1 (t 16)),
  p 18 (.fa 6 (t 1)),
  p 19 (.ld1 (t 18)),
  p 20 (.fa 7 (t 1)),
  p 21 (.ld1 (t 20)),
  p 22 (.build [(.int .i64 0), (.int .i64 0), (.bool false)] [(0, 1, (t 17)), (1, 1, (t 19)), (2, 1, (t 21))]),
  p 23 (.mkI 173 (t 22)),
  p 24 (.fa 3 (t 4)),
  q (.st 1 (t 24) (t 23))])
 (s (o [p 26 (.ibin .eql (t 13) (ii 2)),
  p 25 (.mv (t 26))])
 (EC.cond (t 25)
 (o [p 27 (.fa 4 (t 1)),
  p 28 (.ld1 (t 27)),
  p 29 (.fa 5 (t 1)),
  p 30 (.ld1 (t 29)),
  p 31 (.fa 7 (t 1)),
  p 32 (.ld1 (t 31)),
  p 33 (.build [(.int .i64 0), (.int .i64 0), (.bool false)] [(0, 1, (t 28)), (1, 1, (t 30)), (2, 1, (t 32))]),
  p 34 (.mkI 189 (t 33)),
  p 35 (.fa 3 (t 4)),
  q (.st 1 (t 35) (t 34))])
 (s (o [p 37 (.ibin .eql (t 13) (ii 3)),
  p 36 (.mv (t 37))])
 (EC.cond (t 36)
 (o [p 38 (.fa 4 (t 1)),
  p 39 (.ld1 (t 38)),
  p 40 (.fa 7 (t 1)),
  p 41 (.ld1 (t 40)),
  p 42 (.build [(.int .i64 0), (.bool false)] [(0, 1, (t 39)), (1, 1, (t 41))]),
  p 43 (.mkI 158 (t 42)),
  p 44 (.fa 3 (t 4)),
  q (.st 1 (t 44) (t 43))])
 (EC.skip)))))))))
 (s (s (EC.draw 9 [w (some 45) none (.ldn 5 (t 4)) 0 0 0,
  w (some 46) none (.pcall 127 [(t 45)]) 0 0 1,
  w (some 47) none (.un .not (t 46)) 0 0 2,
  w (some 48) none (.mv (t 47)) 0 0 3,
  w (some 49) (some (48, false)) (.ldn 5 (t 4)) 0 0 4,
  w (some 50) (some (48, false)) (.pcall 112 [(t 49)]) 0 0 5,
  w (some 51) (some (48, false)) (.ldn 9 (t 1)) 0 0 6,
  w (some 52) (some (48, false)) (.aeq true [1, 1, 0, 1, 1, 1, 1, 0, 2] (t 50) (t 51)) 0 0 7,
  w (some 53) none (.pick (t 48) (.c (.bool true)) (t 52)) 0 0 8])
 (EC.cond (t 53)
 (s (o [p 54 (.build [(.int .i64 0), (.int .i64 0), (.bool false), .nilI, (.str [])] []),
  q (.st 5 (t 2) (t 54)),
  p 3 (.mv (.c (.bool false)))])
 (EC.ret))
 (EC.skip)))
 (s (o [p 55 (.ldn 5 (t 4)),
  q (.st 5 (t 2) (t 55)),
  p 3 (.mv (.c (.bool true)))])
 (EC.ret))))))
 [.cn 2 5, .t 3]
/- glowworm/ctl.Get -/
noncomputable def e114 : EFunc := EFunc.mk 51 true
 (s (o [p 2 (.mv (.c .nilI)),
  p 3 (.mv (.c (.bool false)))])
 (s (o [p 8 (.mv (t 0)),
  p 9 (.ibin .and (t 8) (.c (.int .u8 16))),
  p 10 (.ibin .neq (t 9) (.c (.int .u8 0))),
  p 11 (.mv (t 0)),
  p 12 (.ibin .shr (t 11) (.c (.int .u64 5))),
  p 13 (.cvI .i64 (t 12)),
  p 4 (.mv (t 10)),
  p 5 (.mv (t 13))])
 (s (EC.block 0 (s (o [p 15 (.mv (t 0)),
  p 16 (.ibin .and (t 15) (.c (.int .u8 1))),
  p 17 (.ibin .eql (t 16) (.c (.int .u8 0))),
  p 14 (.mv (t 17))])
 (EC.cond (t 14)
 (s (o [p 18 (.mv (t 5)),
  p 19 (.mv (t 0)),
  p 20 (.ibin .shr (t 19) (.c (.int .u64 1))),
  p 21 (.ibin .and (t 20) (.c (.int .u8 7))),
  p 22 (.cvI .i64 (t 21)),
  p 23 (.mv (t 4)),
  p 24 (.build [(.int .i64 0), (.int .i64 0), (.bool false)] [(0, 1, (t 18)), (1, 1, (t 22)), (2, 1, (t 23))]),
  p 25 (.mkI 173 (t 24)),
  p 2 (.mv (t 25)),
  p 3 (.mv (.c (.bool true)))])
 (EC.ret))
 (s (o [p 27 (.mv (t 0)),
  p 28 (.ibin .and (t 27) (.c (.int .u8 3))),
  p 29 (.ibin .eql (t 28) (.c (.int .u8 1))),
  p 26 (.mv (t 29))])
 (EC.cond (t 26)
 (s (s (o [p 30 (.mv (t 0)),
  p 31 (.ibin .shr (t 30) (.c (.int .u64 2))),
  p 32 (.ibin .and (t 31) (.c (.int .u8 3))),
  p 33 (.cvI .i64 (t 32)),
  p 6 (.mv (t 33))])
 (s (o [p 34 (.mv (t 6)),
  p 35 (.ibin .leq (t 34) (ii 2))])
 (EC.cond (t 35)
 (s (o [p 36 (.mv (t 6)),
  p 37 (.mv (t 5)),
  p 38 (.mv (t 4)),
  p 39 (.build [(.int .i64 0), (.int .i64 0), (.bool false)] [(0, 1, (t 36)), (1, 1, (t 37)), (2, 1, (t 38))]),
  p 40 (.mkI 189 (t 39)),
  p 2 (.mv (t 40)),
  p 3 (.mv (.c (.bool true)))])
 (EC.ret))
 (EC.skip))))
 (s (o [p 2 (.mv (.c .nilI)),
  p 3 (.mv (.c (.bool false)))])
 (EC.ret)))
 (EC.skip))))))
 (s (s (o [p 41 (.call 131 []),
  p 42 (.mv (t 0)),
  p 43 (.ibin .andNot (t 42) (.c (.int .u8 16))),
  p 44 (.call 130 [(t 41), (t 43)]),
  p 7 (.mv (t 44))])
 (s (o [p 45 (.mv (t 7)),
  p 46 (.ibin .gtr (t 45) (ii 0))])
 (EC.cond (t 46)
 (s (o [p 47 (.mv (t 7)),
  p 48 (.mv (t 4)),
  p 49 (.build [(.int .i64 0), (.bool false)] [(0, 1, (t 47)), (1, 1, (t 48))]),
  p 50 (.mkI 158 (t 49)),
  p 2 (.mv (t 50)),
  p 3 (.mv (.c (.bool true)))])
 (EC.ret))
 (EC.skip))))
 (s (o [p 2 (.mv (.c .nilI)),
  p 3 (.mv (.c (.bool false)))])
 (EC.ret))))))
 [.t 2, .t 3]
/- glowworm/glowwormlaw1.Begun -/
noncomputable def e115 : EFunc := EFunc.mk 2 true
 (s (o [p 0 (.mv (.c (.bool false)))])
 (s (o [p 1 (.pcall 132 []),
  p 0 (.mv (t 1))])
 (EC.ret)))
 [.t 0]
/- glowworm/frame.Eq -/
noncomputable def e116 : EFunc := EFunc.mk 31 true
 (s (o [p 2 (.box (t 0)),
  p 3 (.box (t 1)),
  p 4 (.mv (.c (.bool false)))])
 (s (o [p 5 (.fa 0 (t 2)),
  p 6 (.ldn 2 (t 5)),
  p 7 (.fa 0 (t 3)),
  p 8 (.ldn 2 (t 7)),
  p 9 (.aeq false [1, 1] (t 6) (t 8)),
  p 10 (.mv (t 9)),
  w (some 11) (some (10, true)) (.fa 2 (t 2)) 0 0 0,
  w (some 12) (some (10, true)) (.ld1 (t 11)) 0 0 0,
  w (some 13) (some (10, true)) (.fa 2 (t 3)) 0 0 0,
  w (some 14) (some (10, true)) (.ld1 (t 13)) 0 0 0,
  w (some 15) (some (10, true)) (.beq false (t 12) (t 14)) 0 0 0,
  p 16 (.pick (t 10) (t 15) (.c (.bool false))),
  p 17 (.mv (t 16)),
  w (some 18) (some (17, true)) (.fa 4 (t 2)) 0 0 0,
  w (some 19) (some (17, true)) (.ld1 (t 18)) 0 0 0,
  w (some 20) (some (17, true)) (.fa 4 (t 3)) 0 0 0,
  w (some 21) (some (17, true)) (.ld1 (t 20)) 0 0 0,
  w (some 22) (some (17, true)) (.sbin .eql (t 19) (t 21)) 0 0 0,
  p 23 (.pick (t 17) (t 22) (.c (.bool false))),
  p 24 (.mv (t 23)),
  w (some 25) (some (24, true)) (.fa 3 (t 2)) 0 0 0,
  w (some 26) (some (24, true)) (.ld1 (t 25)) 0 0 0,
  w (some 27) (some (24, true)) (.fa 3 (t 3)) 0 0 0,
  w (some 28) (some (24, true)) (.ld1 (t 27)) 0 0 0,
  w (some 29) (some (24, true)) (.pcall 133 [(t 26), (t 28)]) 0 0 0,
  p 30 (.pick (t 24) (t 29) (.c (.bool false))),
  p 4 (.mv (t 30))])
 (EC.ret)))
 [.t 4]
/- glowworm/ctl.MustI -/
noncomputable def e117 : EFunc := EFunc.mk 5 true
 (s (o [p 2 (.new [(.int .i64 0), (.int .i64 0), (.bool false)])])
 (s (o [p 3 (.mv (t 0)),
  p 4 (.tas 173 (.agg [(.int .i64 0), (.int .i64 0), (.bool false)]) false (t 3)),
  q (.st 3 (t 2) (t 4))])
 (EC.ret)))
 [.cn 2 3]
/- glowworm/nick.Len -/
noncomputable def e118 : EFunc := EFunc.mk 11 true
 (s (o [p 2 (.mv (ii 0))])
 (s (o [p 3 (.mv (ii 0))])
 (s (s (o [p 4 (.mv (t 0)),
  p 5 (.rngS (t 4))])
 (EC.block 0 (EC.loop (s (o [p 6 (.next (t 5)),
  p 7 (.ext (t 6) 0)])
 (s (EC.cond (t 7)
 (EC.skip)
 (EC.exit 0))
 (EC.block 1 (o [p 8 (.mv (t 3)),
  p 9 (.ibin .add (t 8) (ii 1)),
  p 3 (.mv (t 9))])))))))
 (s (o [p 10 (.mv (t 3)),
  p 2 (.mv (t 10))])
 (EC.ret)))))
 [.t 2]
/- glowworm/nick.Plain -/
noncomputable def e119 : EFunc := EFunc.mk 26 true
 (s (o [p 2 (.mv (.c (.str [])))])
 (s (o [p 3 (.mv (.c .nils))])
 (s (s (o [p 7 (.mv (t 0)),
  p 8 (.rngS (t 7))])
 (EC.block 0 (EC.loop (s (o [p 9 (.next (t 8)),
  p 10 (.ext (t 9) 0)])
 (s (EC.cond (t 10)
 (EC.skip)
 (EC.exit 0))
 (EC.block 1 (s (o [p 11 (.ext (t 9) 2),
  p 5 (.mv (t 11))])
 (s (s (o [p 12 (.mv (t 5)),
  p 13 (.pcall 60 [(t 12)]),
  p 6 (.mv (t 13))])
 (s (o [p 14 (.mv (t 6)),
  p 15 (.ibin .eql (t 14) (ii 0)),
  p 16 (.mv (t 15)),
  w (some 17) (some (16, false)) (.mv (t 6)) 0 0 0,
  w (some 18) (some (16, false)) (.ibin .eql (t 17) (ii 4)) 0 0 0,
  p 19 (.pick (t 16) (.c (.bool true)) (t 18))])
 (EC.cond (t 19)
 (o [p 5 (.mv (.c (.int .i32 63)))])
 (EC.skip))))
 (o [p 20 (.mv (t 3)),
  p 21 (.mv (t 5)),
  p 22 (.bslice 1 1 [(.int .i32 0)] [(0, 1, (t 21))]),
  p 23 (.app 1 4 (t 20) (t 22)),
  p 3 (.mv (t 23))])))))))))
 (s (o [p 24 (.mv (t 3)),
  p 25 (.cvRS (t 24)),
  p 2 (.mv (t 25))])
 (EC.ret)))))
 [.t 2]
/- glowworm/nick.Cut -/
noncomputable def e120 : EFunc := EFunc.mk 37 true
 (s (o [p 4 (.mv (.c (.str [])))])
 (s (s (o [p 8 (.mv (t 0)),
  p 9 (.rngS (t 8))])
 (EC.block 0 (EC.loop (s (o [p 10 (.next (t 9)),
  p 11 (.ext (t 10) 0)])
 (s (EC.cond (t 11)
 (EC.skip)
 (EC.exit 0))
 (EC.block 1 (s (o [p 12 (.ext (t 10) 1),
  p 5 (.mv (t 12))])
 (s (o [p 14 (.mv (t 0)),
  p 15 (.mv (t 5)),
  p 16 (.slS (t 14) (some (t 15)) none),
  p 17 (.pcall 134 [(t 16)]),
  p 13 (.mv (t 17)),
  p 18 (.ext (t 13) 0),
  p 19 (.ext (t 13) 1),
  p 6 (.mv (t 18)),
  p 7 (.mv (t 19))])
 (s (o [p 20 (.mv (t 5)),
  p 21 (.mv (t 7)),
  p 22 (.ibin .add (t 20) (t 21)),
  p 23 (.mv (t 1)),
  p 24 (.ibin .gtr (t 22) (t 23)),
  p 25 (.mv (t 24)),
  w (some 26) (some (25, false)) (.mv (t 6)) 0 0 0,
  w (some 27) (some (25, false)) (.ibin .eql (t 26) (.c (.int .i32 65533))) 0 0 0,
  w (some 28) (some (25, false)) (.mv (t 27)) 0 0 0,
  w (some 29) (some (28, true)) (.mv (t 7)) 0 0 0,
  w (some 30) (some (28, true)) (.ibin .eql (t 29) (ii 1)) 0 0 0,
  w (some 31) (some (25, false)) (.pick (t 28) (t 30) (.c (.bool false))) 0 0 0,
  p 32 (.pick (t 25) (.c (.bool true)) (t 31))])
 (EC.cond (t 32)
 (s (o [p 33 (.mv (t 0)),
  p 34 (.mv (t 5)),
  p 35 (.slS (t 33) none (some (t 34))),
  p 4 (.mv (t 35))])
 (EC.ret))
 (EC.skip)))))))))))
 (s (o [p 36 (.mv (t 0)),
  p 4 (.mv (t 36))])
 (EC.ret))))
 [.t 4]
/- slices.siftDownOrdered[uint32] -/
noncomputable def e121 : EFunc := EFunc.mk 76 false
 (s (o [p 10 (.mv (t 1)),
  p 8 (.mv (t 10))])
 (EC.block 0 (EC.loop (EC.block 1 (s (o [p 11 (.mv (t 8)),
  p 12 (.ibin .mul (ii 2) (t 11)),
  p 13 (.ibin .add (t 12) (ii 1)),
  p 9 (.mv (t 13))])
 (s (s (o [p 14 (.mv (t 9)),
  p 15 (.mv (t 2)),
  p 16 (.ibin .geq (t 14) (t 15))])
 (EC.cond (t 16)
 (EC.exit 0)
 (EC.skip)))
 (s (s (EC.draw 20 [w (some 17) none (.mv (t 9)) 0 0 0,
  w (some 18) none (.ibin .add (t 17) (ii 1)) 0 0 1,
  w (some 19) none (.mv (t 2)) 0 0 2,
  w (some 20) none (.ibin .lss (t 18) (t 19)) 0 0 3,
  w (some 21) none (.mv (t 20)) 0 0 4,
  w (some 22) (some (21, true)) (.mv (t 0)) 0 0 5,
  w (some 23) (some (21, true)) (.mv (t 3)) 0 0 6,
  w (some 24) (some (21, true)) (.mv (t 9)) 0 0 7,
  w (some 25) (some (21, true)) (.ibin .add (t 23) (t 24)) 0 0 8,
  w (some 26) (some (21, true)) (.ia 1 (t 22) (t 25)) 0 0 9,
  w (some 27) (some (21, true)) (.ld1 (t 26)) 0 0 10,
  w (some 28) (some (21, true)) (.mv (t 0)) 0 0 11,
  w (some 29) (some (21, true)) (.mv (t 3)) 0 0 12,
  w (some 30) (some (21, true)) (.mv (t 9)) 0 0 13,
  w (some 31) (some (21, true)) (.ibin .add (t 29) (t 30)) 0 0 14,
  w (some 32) (some (21, true)) (.ibin .add (t 31) (ii 1)) 0 0 15,
  w (some 33) (some (21, true)) (.ia 1 (t 28) (t 32)) 0 0 16,
  w (some 34) (some (21, true)) (.ld1 (t 33)) 0 0 17,
  w (some 35) (some (21, true)) (.pcall 101 [(t 27), (t 34)]) 0 0 18,
  w (some 36) none (.pick (t 21) (t 35) (.c (.bool false))) 0 0 19])
 (EC.cond (t 36)
 (o [p 37 (.mv (t 9)),
  p 38 (.ibin .add (t 37) (ii 1)),
  p 9 (.mv (t 38))])
 (EC.skip)))
 (s (s (EC.draw 14 [w (some 39) none (.mv (t 0)) 0 0 0,
  w (some 40) none (.mv (t 3)) 0 0 1,
  w (some 41) none (.mv (t 8)) 0 0 2,
  w (some 42) none (.ibin .add (t 40) (t 41)) 0 0 3,
  w (some 43) none (.ia 1 (t 39) (t 42)) 0 0 4,
  w (some 44) none (.ld1 (t 43)) 0 0 5,
  w (some 45) none (.mv (t 0)) 0 0 6,
  w (some 46) none (.mv (t 3)) 0 0 7,
  w (some 47) none (.mv (t 9)) 0 0 8,
  w (some 48) none (.ibin .add (t 46) (t 47)) 0 0 9,
  w (some 49) none (.ia 1 (t 45) (t 48)) 0 0 10,
  w (some 50) none (.ld1 (t 49)) 0 0 11,
  w (some 51) none (.pcall 101 [(t 44), (t 50)]) 0 0 12,
  w (some 52) none (.un .not (t 51)) 0 0 13])
 (EC.cond (t 52)
 (EC.ret)
 (EC.skip)))
 (s (EC.draw 24 [w (some 53) none (.mv (t 0)) 0 0 0,
  w (some 54) none (.mv (t 3)) 0 0 1,
  w (some 55) none (.mv (t 8)) 0 0 2,
  w (some 56) none (.ibin .add (t 54) (t 55)) 0 0 3,
  w (some 57) none (.mv (t 0)) 0 1 4,
  w (some 58) none (.mv (t 3)) 0 1 5,
  w (some 59) none (.mv (t 9)) 0 1 6,
  w (some 60) none (.ibin .add (t 58) (t 59)) 0 1 7,
  w (some 61) none (.mv (t 0)) 0 0 8,
  w (some 62) none (.mv (t 3)) 0 0 9,
  w (some 63) none (.mv (t 9)) 0 0 10,
  w (some 64) none (.ibin .add (t 62) (t 63)) 0 0 11,
  w (some 65) none (.ia 1 (t 61) (t 64)) 0 0 12,
  w (some 66) none (.ld1 (t 65)) 0 0 13,
  w (some 67) none (.mv (t 0)) 0 0 14,
  w (some 68) none (.mv (t 3)) 0 0 15,
  w (some 69) none (.mv (t 8)) 0 0 16,
  w (some 70) none (.ibin .add (t 68) (t 69)) 0 0 17,
  w (some 71) none (.ia 1 (t 67) (t 70)) 0 0 18,
  w (some 72) none (.ld1 (t 71)) 0 0 19,
  w (some 73) none (.ia 1 (t 53) (t 56)) 0 0 20,
  w none none (.st 1 (t 73) (t 66)) 0 1 21,
  w (some 74) none (.ia 1 (t 57) (t 60)) 1 1 22,
  w none none (.st 1 (t 74) (t 72)) 1 2 23])
 (o [p 75 (.mv (t 9)),
  p 8 (.mv (t 75))]))))))))))
 []
/- slices.nextPowerOfTwo -/
noncomputable def e122 : EFunc := EFunc.mk 7 true
 (s (o [p 2 (.mv (.c (.int .u64 0)))])
 (s (o [p 3 (.mv (t 0)),
  p 4 (.cvI .u64 (t 3)),
  p 5 (.pcall 79 [(t 4)]),
  p 6 (.ibin .shl (.c (.int .u64 1)) (t 5)),
  p 2 (.mv (t 6))])
 (EC.ret)))
 [.t 2]
/- (*slices.xorshift).Next -/
noncomputable def e123 : EFunc := EFunc.mk 33 false
 (s (o [p 2 (.mv (.c (.int .u64 0)))])
 (s (EC.draw 10 [w (some 3) none (.mv (t 0)) 0 0 0,
  w (some 4) none (.nilchk (t 3)) 0 0 1,
  w (some 5) none (.ld1 (t 4)) 0 0 2,
  w (some 6) none (.mv (t 0)) 0 0 3,
  w (some 7) none (.nilchk (t 6)) 0 0 4,
  w (some 8) none (.ld1 (t 7)) 0 0 5,
  w (some 9) none (.ibin .shl (t 8) (.c (.int .u64 13))) 0 0 6,
  w (some 10) none (.ibin .xor (t 5) (t 9)) 0 0 7,
  w (some 11) none (.nilchk (t 3)) 0 0 8,
  w none none (.st 1 (t 11) (t 10)) 0 1 9])
 (s (EC.draw 10 [w (some 12) none (.mv (t 0)) 0 0 0,
  w (some 13) none (.nilchk (t 12)) 0 0 1,
  w (some 14) none (.ld1 (t 13)) 0 0 2,
  w (some 15) none (.mv (t 0)) 0 0 3,
  w (some 16) none (.nilchk (t 15)) 0 0 4,
  w (some 17) none (.ld1 (t 16)) 0 0 5,
  w (some 18) none (.ibin .shr (t 17) (.c (.int .u64 7))) 0 0 6,
  w (some 19) none (.ibin .xor (t 14) (t 18)) 0 0 7,
  w (some 20) none (.nilchk (t 12)) 0 0 8,
  w none none (.st 1 (t 20) (t 19)) 0 1 9])
 (s (EC.draw 10 [w (some 21) none (.mv (t 0)) 0 0 0,
  w (some 22) none (.nilchk (t 21)) 0 0 1,
  w (some 23) none (.ld1 (t 22)) 0 0 2,
  w (some 24) none (.mv (t 0)) 0 0 3,
  w (some 25) none (.nilchk (t 24)) 0 0 4,
  w (some 26) none (.ld1 (t 25)) 0 0 5,
  w (some 27) none (.ibin .shl (t 26) (.c (.int .u64 17))) 0 0 6,
  w (some 28) none (.ibin .xor (t 23) (t 27)) 0 0 7,
  w (some 29) none (.nilchk (t 21)) 0 0 8,
  w none none (.st 1 (t 29) (t 28)) 0 1 9])
 (s (o [p 30 (.mv (t 0)),
  p 31 (.nilchk (t 30)),
  p 32 (.ld1 (t 31)),
  p 2 (.mv (t 32))])
 (EC.ret))))))
 [.t 2]
/- slices.medianAdjacentOrdered[uint32] -/
noncomputable def e124 : EFunc := EFunc.mk 15 false
 (s (o [p 6 (.mv (ii 0))])
 (s (o [p 7 (.mv (t 0)),
  p 8 (.mv (t 1)),
  p 9 (.ibin .sub (t 8) (ii 1)),
  p 10 (.mv (t 1)),
  p 11 (.mv (t 1)),
  p 12 (.ibin .add (t 11) (ii 1)),
  p 13 (.mv (t 2)),
  p 14 (.call 125 [(t 7), (t 9), (t 10), (t 12), (t 13)]),
  p 6 (.mv (t 14))])
 (EC.ret)))
 [.t 6]
/- slices.medianOrdered[uint32] -/
noncomputable def e125 : EFunc := EFunc.mk 36 false
 (s (o [p 10 (.mv (ii 0))])
 (s (o [p 12 (.mv (t 0)),
  p 13 (.mv (t 1)),
  p 14 (.mv (t 2)),
  p 15 (.mv (t 4)),
  p 16 (.call 135 [(t 12), (t 13), (t 14), (t 15)]),
  p 11 (.mv (t 16)),
  p 17 (.ext (t 11) 0),
  p 18 (.ext (t 11) 1),
  p 1 (.mv (t 17)),
  p 2 (.mv (t 18))])
 (s (o [p 20 (.mv (t 0)),
  p 21 (.mv (t 2)),
  p 22 (.mv (t 3)),
  p 23 (.mv (t 4)),
  p 24 (.call 135 [(t 20), (t 21), (t 22), (t 23)]),
  p 19 (.mv (t 24)),
  p 25 (.ext (t 19) 0),
  p 26 (.ext (t 19) 1),
  p 2 (.mv (t 25)),
  p 3 (.mv (t 26))])
 (s (o [p 28 (.mv (t 0)),
  p 29 (.mv (t 1)),
  p 30 (.mv (t 2)),
  p 31 (.mv (t 4)),
  p 32 (.call 135 [(t 28), (t 29), (t 30), (t 31)]),
  p 27 (.mv (t 32)),
  p 33 (.ext (t 27) 0),
  p 34 (.ext (t 27) 1),
  p 1 (.mv (t 33)),
  p 2 (.mv (t 34))])
 (s (o [p 35 (.mv (t 2)),
  p 10 (.mv (t 35))])
 (EC.ret))))))
 [.t 10]
/- cmp.isNaN[uint32] -/
noncomputable def e126 : EFunc := EFunc.mk 6 true
 (s (o [p 2 (.mv (.c (.bool false)))])
 (s (o [p 3 (.mv (t 0)),
  p 4 (.mv (t 0)),
  p 5 (.ibin .neq (t 3) (t 4)),
  p 2 (.mv (t 5))])
 (EC.ret)))
 [.t 2]
/- glowworm/frame.May -/
noncomputable def e127 : EFunc := EFunc.mk 50 true
 (s (o [p 1 (.box (t 0)),
  p 2 (.mv (.c (.bool false)))])
 (s (o [p 7 (.fa 3 (t 1)),
  p 8 (.ld1 (t 7)),
  p 9 (.tas 189 (.agg [(.int .i64 0), (.int .i64 0), (.bool false)]) true (t 8)),
  p 6 (.mv (t 9)),
  p 10 (.ext (t 6) 0),
  p 11 (.ext (t 6) 1),
  p 3 (.new [(.int .i64 0), (.int .i64 0), (.bool false)]),
  q (.st 3 (t 3) (t 10)),
  p 4 (.mv (t 11))])
 (s (o [p 12 (.fa 0 (t 1)),
  p 13 (.ldn 2 (t 12)),
  p 5 (.new [(.int .i64 0), (.int .i64 0)]),
  q (.st 2 (t 5) (t 13))])
 (s (s (o [p 14 (.fa 0 (t 5)),
  p 15 (.ld1 (t 14)),
  p 16 (.ibin .lss (t 15) (ii 0)),
  p 17 (.mv (t 16)),
  w (some 18) (some (17, false)) (.fa 0 (t 5)) 0 0 0,
  w (some 19) (some (17, false)) (.ld1 (t 18)) 0 0 0,
  w (some 20) (some (17, false)) (.ibin .gtr (t 19) (ii 127)) 0 0 0,
  p 21 (.pick (t 17) (.c (.bool true)) (t 20)),
  p 22 (.mv (t 21)),
  w (some 23) (some (22, false)) (.fa 1 (t 5)) 0 0 0,
  w (some 24) (some (22, false)) (.ld1 (t 23)) 0 0 0,
  w (some 25) (some (22, false)) (.ibin .lss (t 24) (ii 0)) 0 0 0,
  p 26 (.pick (t 22) (.c (.bool true)) (t 25)),
  p 27 (.mv (t 26)),
  w (some 28) (some (27, false)) (.fa 1 (t 5)) 0 0 0,
  w (some 29) (some (27, false)) (.ld1 (t 28)) 0 0 0,
  w (some 30) (some (27, false)) (.ibin .gtr (t 29) (ii 255)) 0 0 0,
  p 31 (.pick (t 27) (.c (.bool true)) (t 30))])
 (EC.cond (t 31)
 (s (o [p 2 (.mv (.c (.bool false)))])
 (EC.ret))
 (EC.skip)))
 (s (o [p 32 (.fa 3 (t 1)),
  p 33 (.ld1 (t 32)),
  p 34 (.pcall 136 [(t 33)]),
  p 35 (.mv (t 34)),
  w (some 36) (some (35, true)) (.fa 4 (t 1)) 0 0 0,
  w (some 37) (some (35, true)) (.ld1 (t 36)) 0 0 0,
  w (some 38) (some (35, true)) (.lenS (t 37)) 0 0 0,
  w (some 39) (some (35, true)) (.ibin .leq (t 38) (ii 64)) 0 0 0,
  p 40 (.pick (t 35) (t 39) (.c (.bool false))),
  p 41 (.mv (t 40)),
  w (some 42) (some (41, true)) (.mv (t 4)) 0 0 0,
  w (some 43) (some (41, true)) (.un .not (t 42)) 0 0 0,
  w (some 44) (some (41, true)) (.mv (t 43)) 0 0 0,
  w (some 45) (some (44, false)) (.fa 4 (t 1)) 0 0 0,
  w (some 46) (some (44, false)) (.ld1 (t 45)) 0 0 0,
  w (some 47) (some (44, false)) (.sbin .eql (t 46) (.c (.str []))) 0 0 0,
  w (some 48) (some (41, true)) (.pick (t 44) (.c (.bool true)) (t 47)) 0 0 0,
  p 49 (.pick (t 41) (t 48) (.c (.bool false))),
  p 2 (.mv (t 49))])
 (EC.ret))))))
 [.t 2]
/- glowworm/ctl.Put -/
noncomputable def e128 : EFunc := EFunc.mk 48 true
 (s (o [p 2 (.mv (.c (.int .u8 0))),
  p 3 (.mv (.c (.bool false)))])
 (s (s (o [p 8 (.mv (t 0)),
  p 9 (.pcall 136 [(t 8)]),
  p 10 (.un .not (t 9))])
 (EC.cond (t 10)
 (s (o [p 2 (.mv (.c (.int .u8 0))),
  p 3 (.mv (.c (.bool false)))])
 (EC.ret))
 (EC.skip)))
 (s (o [p 4 (.mv (ii 0))])
 (s (s (o [p 11 (.mv (t 0))])
 (EC.block 0 (s (o [p 12 (.tas 173 (.agg [(.int .i64 0), (.int .i64 0), (.bool false)]) true (t 11)),
  p 13 (.ext (t 12) 1),
  p 14 (.ext (t 12) 0)])
 (EC.cond (t 13)
 (s (o [p 5 (.new [(.int .i64 0), (.int .i64 0), (.bool false)]),
  q (.st 3 (t 5) (t 14))])
 (o [p 15 (.fa 0 (t 5)),
  p 16 (.ld1 (t 15)),
  p 17 (.ibin .mul (t 16) (ii 32)),
  p 18 (.fa 1 (t 5)),
  p 19 (.ld1 (t 18)),
  p 20 (.ibin .mul (t 19) (ii 2)),
  p 21 (.ibin .add (t 17) (t 20)),
  p 4 (.mv (t 21))]))
 (s (o [p 22 (.tas 189 (.agg [(.int .i64 0), (.int .i64 0), (.bool false)]) true (t 11)),
  p 23 (.ext (t 22) 1),
  p 24 (.ext (t 22) 0)])
 (EC.cond (t 23)
 (s (o [p 6 (.new [(.int .i64 0), (.int .i64 0), (.bool false)]),
  q (.st 3 (t 6) (t 24))])
 (o [p 25 (.fa 1 (t 6)),
  p 26 (.ld1 (t 25)),
  p 27 (.ibin .mul (t 26) (ii 32)),
  p 28 (.fa 0 (t 6)),
  p 29 (.ld1 (t 28)),
  p 30 (.ibin .mul (t 29) (ii 4)),
  p 31 (.ibin .add (t 27) (t 30)),
  p 32 (.ibin .add (t 31) (ii 1)),
  p 4 (.mv (t 32))]))
 (s (o [p 33 (.tas 158 (.agg [(.int .i64 0), (.bool false)]) true (t 11)),
  p 34 (.ext (t 33) 1),
  p 35 (.ext (t 33) 0)])
 (EC.cond (t 34)
 (s (o [p 7 (.new [(.int .i64 0), (.bool false)]),
  q (.st 2 (t 7) (t 35))])
 (EC.draw 7 [w (some 36) none (.call 131 []) 0 1 0,
  w (some 37) none (.fa 0 (t 7)) 0 1 1,
  w (some 38) none (.ld1 (t 37)) 0 1 2,
  w (some 39) none (.ia 1 (t 36) (t 38)) 1 1 3,
  w (some 40) none (.ld1 (t 39)) 1 1 4,
  w (some 41) none (.cvI .i64 (t 40)) 1 1 5,
  w (some 4) none (.mv (t 41)) 1 1 6]))
 (EC.skip)))))))))
 (s (s (o [p 42 (.mv (t 0)),
  p 43 (.pcall 129 [(t 42)])])
 (EC.cond (t 43)
 (o [p 44 (.mv (t 4)),
  p 45 (.ibin .add (t 44) (ii 16)),
  p 4 (.mv (t 45))])
 (EC.skip)))
 (s (o [p 46 (.mv (t 4)),
  p 47 (.cvI .u8 (t 46)),
  p 2 (.mv (t 47)),
  p 3 (.mv (.c (.bool true)))])
 (EC.ret)))))))
 [.t 2, .t 3]
/- glowworm/ctl.PF -/
noncomputable def e129 : EFunc := EFunc.mk 22 true
 (s (o [p 2 (.mv (.c (.bool false)))])
 (s (s (o [p 6 (.mv (t 0))])
 (EC.block 0 (s (o [p 7 (.tas 173 (.agg [(.int .i64 0), (.int .i64 0), (.bool false)]) true (t 6)),
  p 8 (.ext (t 7) 1),
  p 9 (.ext (t 7) 0)])
 (EC.cond (t 8)
 (s (o [p 3 (.new [(.int .i64 0), (.int .i64 0), (.bool false)]),
  q (.st 3 (t 3) (t 9))])
 (s (o [p 10 (.fa 2 (t 3)),
  p 11 (.ld1 (t 10)),
  p 2 (.mv (t 11))])
 (EC.ret)))
 (s (o [p 12 (.tas 189 (.agg [(.int .i64 0), (.int .i64 0), (.bool false)]) true (t 6)),
  p 13 (.ext (t 12) 1),
  p 14 (.ext (t 12) 0)])
 (EC.cond (t 13)
 (s (o [p 4 (.new [(.int .i64 0), (.int .i64 0), (.bool false)]),
  q (.st 3 (t 4) (t 14))])
 (s (o [p 15 (.fa 2 (t 4)),
  p 16 (.ld1 (t 15)),
  p 2 (.mv (t 16))])
 (EC.ret)))
 (s (o [p 17 (.tas 158 (.agg [(.int .i64 0), (.bool false)]) true (t 6)),
  p 18 (.ext (t 17) 1),
  p 19 (.ext (t 17) 0)])
 (EC.cond (t 18)
 (s (o [p 5 (.new [(.int .i64 0), (.bool false)]),
  q (.st 2 (t 5) (t 19))])
 (s (o [p 20 (.fa 1 (t 5)),
  p 21 (.ld1 (t 20)),
  p 2 (.mv (t 21))])
 (EC.ret)))
 (EC.skip)))))))))
 (s (o [p 2 (.mv (.c (.bool false)))])
 (EC.ret))))
 [.t 2]
/- slices.Index[[]byte,byte] -/
noncomputable def e130 : EFunc := EFunc.mk 19 false
 (s (o [p 4 (.mv (ii 0))])
 (s (s (o [p 6 (.mv (t 0)),
  p 7 (.len (t 6)),
  p 8 (.mv (ii 0))])
 (EC.block 0 (EC.loop (s (o [p 9 (.ibin .lss (t 8) (t 7))])
 (s (EC.cond (t 9)
 (EC.skip)
 (EC.exit 0))
 (s (EC.block 1 (s (o [p 10 (.mv (t 8)),
  p 5 (.mv (t 10))])
 (s (o [p 11 (.mv (t 1)),
  p 12 (.mv (t 0)),
  p 13 (.mv (t 5)),
  p 14 (.ia 1 (t 12) (t 13)),
  p 15 (.ld1 (t 14)),
  p 16 (.ibin .eql (t 11) (t 15))])
 (EC.cond (t 16)
 (s (o [p 17 (.mv (t 5)),
  p 4 (.mv (t 17))])
 (EC.ret))
 (EC.skip)))))
 (o [p 18 (.ibin .add (t 8) (ii 1)),
  p 8 (.mv (t 18))])))))))
 (s (o [p 4 (.mv (ii (-1)))])
 (EC.ret))))
 [.t 4]
/- glowworm/ctl.codes -/
noncomputable def e131 : EFunc := EFunc.mk 2 false
 (s (o [p 0 (.mv (.c .nils))])
 (s (o [p 1 (.bslice 1 8 [(.int .u8 0), (.int .u8 0), (.int .u8 0), (.int .u8 0), (.int .u8 0), (.int .u8 0), (.int .u8 0), (.int .u8 0)] [(0, 1, (.c (.int .u8 0))), (1, 1, (.c (.int .u8 47))), (2, 1, (.c (.int .u8 131))), (3, 1, (.c (.int .u8 99))), (4, 1, (.c (.int .u8 15))), (5, 1, (.c (.int .u8 67))), (6, 1, (.c (.int .u8 139))), (7, 1, (.c (.int .u8 143)))]),
  p 0 (.mv (t 1))])
 (EC.ret)))
 [.t 0]
/- glowworm/glowwormlaw1.begun -/
noncomputable def e132 : EFunc := EFunc.mk 102 true
 (s (o [p 0 (.mv (.c (.bool false)))])
 (s (o [p 11 (.bslice 1 2 [(.int .u8 0), (.int .u8 0)] [(0, 1, (.c (.int .u8 1))), (1, 1, (.c (.int .u8 192)))]),
  p 12 (.call 137 [(t 11), (ii 1)]),
  p 1 (.mv (t 12))])
 (s (o [p 13 (.bslice 1 2 [(.int .u8 0), (.int .u8 0)] [(0, 1, (.c (.int .u8 5))), (1, 1, (.c (.int .u8 193)))]),
  p 14 (.mv (t 1)),
  p 15 (.app 1 1 (t 13) (t 14)),
  p 16 (.call 138 [(ii 20), (t 15)]),
  p 2 (.mv (t 16))])
 (s (o [p 17 (.call 139 [(ii 5)]),
  p 3 (.mv (t 17))])
 (s (s (o [p 18 (.mv (t 3)),
  p 19 (.neq0 false 0 (t 18) (.c .nilp))])
 (EC.cond (t 19)
 (s (o [p 0 (.mv (.c (.bool false)))])
 (EC.ret))
 (EC.skip)))
 (s (o [p 21 (.mv (t 3)),
  p 22 (.call 140 [(t 21), (.c (.int .u8 192))]),
  p 20 (.mv (t 22)),
  p 23 (.ext (t 20) 0),
  p 24 (.ext (t 20) 1),
  p 25 (.ext (t 20) 2),
  p 4 (.mv (t 23)),
  p 5 (.mv (t 24)),
  p 6 (.mv (t 25))])
 (s (o [p 26 (.mv (t 3)),
  p 27 (.call 141 [(t 26)]),
  p 7 (.mv (t 27))])
 (s (o [p 29 (.mv (t 3)),
  p 30 (.call 140 [(t 29), (.c (.int .u8 193))]),
  p 28 (.mv (t 30)),
  p 31 (.ext (t 28) 0),
  p 32 (.ext (t 28) 1),
  p 33 (.ext (t 28) 2),
  p 8 (.mv (t 31)),
  p 9 (.mv (t 32)),
  p 10 (.mv (t 33))])
 (s (o [p 34 (.bslice 1 9 [(.int .u8 0), (.int .u8 0), (.int .u8 0), (.int .u8 0), (.int .u8 0), (.int .u8 0), (.int .u8 0), (.int .u8 0), (.int .u8 0)] [(0, 1, (.c (.int .u8 49))), (1, 1, (.c (.int .u8 50))), (2, 1, (.c (.int .u8 51))), (3, 1, (.c (.int .u8 52))), (4, 1, (.c (.int .u8 53))), (5, 1, (.c (.int .u8 54))), (6, 1, (.c (.int .u8 55))), (7, 1, (.c (.int .u8 56))), (8, 1, (.c (.int .u8 57)))]),
  p 35 (.cvLL (t 34)),
  p 36 (.call 142 [(t 35)]),
  p 37 (.ibin .eql (t 36) (.c (.int .u16 36974))),
  p 38 (.mv (t 37)),
  w (some 39) (some (38, true)) (.bslice 1 1 [(.int .u8 0)] [(0, 1, (.c (.int .u8 7)))]) 0 0 0,
  w (some 40) (some (38, true)) (.call 144 [(t 39)]) 0 0 0,
  w (some 41) (some (38, true)) (.call 143 [(t 40)]) 0 0 0,
  p 42 (.pick (t 38) (t 41) (.c (.bool false))),
  p 43 (.mv (t 42)),
  w (some 44) (some (43, true)) (.call 144 [(.c .nils)]) 0 0 0,
  w (some 45) (some (43, true)) (.len (t 44)) 0 0 0,
  w (some 46) (some (43, true)) (.ibin .eql (t 45) (ii 2)) 0 0 0,
  p 47 (.pick (t 43) (t 46) (.c (.bool false))),
  p 48 (.mv (t 47)),
  w (some 49) (some (48, true)) (.mv (t 1)) 0 0 0,
  w (some 50) (some (48, true)) (.len (t 49)) 0 0 0,
  w (some 51) (some (48, true)) (.ibin .geq (t 50) (ii 7)) 0 0 0,
  p 52 (.pick (t 48) (t 51) (.c (.bool false))),
  p 53 (.mv (t 52)),
  w (some 54) (some (53, true)) (.mv (t 1)) 0 0 0,
  w (some 55) (some (53, true)) (.ia 1 (t 54) (ii 0)) 0 0 0,
  w (some 56) (some (53, true)) (.ld1 (t 55)) 0 0 0,
  w (some 57) (some (53, true)) (.ibin .eql (t 56) (.c (.int .u8 255))) 0 0 0,
  p 58 (.pick (t 53) (t 57) (.c (.bool false))),
  p 59 (.mv (t 58)),
  w (some 60) (some (59, true)) (.mv (t 1)) 0 0 0,
  w (some 61) (some (59, true)) (.ia 1 (t 60) (ii 1)) 0 0 0,
  w (some 62) (some (59, true)) (.ld1 (t 61)) 0 0 0,
  w (some 63) (some (59, true)) (.ibin .eql (t 62) (.c (.int .u8 192))) 0 0 0,
  p 64 (.pick (t 59) (t 63) (.c (.bool false))),
  p 65 (.mv (t 64)),
  w (some 66) (some (65, true)) (.mv (t 2)) 0 0 0,
  w (some 67) (some (65, true)) (.len (t 66)) 0 0 0,
  w (some 68) (some (65, true)) (.ibin .eql (t 67) (ii 1)) 0 0 0,
  p 69 (.pick (t 65) (t 68) (.c (.bool false))),
  p 70 (.mv (t 69)),
  w (some 71) (some (70, true)) (.mv (t 2)) 0 0 0,
  w (some 72) (some (70, true)) (.ia 1 (t 71) (ii 0)) 0 0 0,
  w (some 73) (some (70, true)) (.ld1 (t 72)) 0 0 0,
  w (some 74) (some (70, true)) (.cvBS (t 73)) 0 0 0,
  w (some 75) (some (70, true)) (.sbin .eql (t 74) (.c (.str [1, 192]))) 0 0 0,
  p 76 (.pick (t 70) (t 75) (.c (.bool false))),
  p 77 (.mv (t 76)),
  w (some 78) (some (77, true)) (.bslice 1 1 [(.int .u8 0)] [(0, 1, (.c (.int .u8 125)))]) 0 0 0,
  w (some 79) (some (77, true)) (.call 145 [(t 78)]) 0 0 0,
  w (some 80) (some (77, true)) (.cvBS (t 79)) 0 0 0,
  w (some 81) (some (77, true)) (.sbin .eql (t 80) (.c (.str [125, 93]))) 0 0 0,
  p 82 (.pick (t 77) (t 81) (.c (.bool false))),
  p 83 (.mv (t 82)),
  w (some 84) (some (83, true)) (.mv (t 6)) 0 0 0,
  w (some 85) (some (83, true)) (.un .not (t 84)) 0 0 0,
  p 86 (.pick (t 83) (t 85) (.c (.bool false))),
  p 87 (.mv (t 86)),
  w (some 88) (some (87, true)) (.mv (t 7)) 0 0 0,
  p 89 (.pick (t 87) (t 88) (.c (.bool false))),
  p 90 (.mv (t 89)),
  w (some 91) (some (90, true)) (.mv (t 10)) 0 0 0,
  p 92 (.pick (t 90) (t 91) (.c (.bool false))),
  p 93 (.mv (t 92)),
  w (some 94) (some (93, true)) (.mv (t 9)) 0 0 0,
  w (some 95) (some (93, true)) (.ibin .eql (t 94) (ii 8)) 0 0 0,
  p 96 (.pick (t 93) (t 95) (.c (.bool false))),
  p 97 (.mv (t 96)),
  w (some 98) (some (97, true)) (.call 146 [(.c .nils)]) 0 0 0,
  w (some 99) (some (97, true)) (.cvBS (t 98)) 0 0 0,
  w (some 100) (some (97, true)) (.sbin .eql (t 99) (.c (.str [192, 125, 193]))) 0 0 0,
  p 101 (.pick (t 97) (t 100) (.c (.bool false))),
  p 0 (.mv (t 101))])
 (EC.ret))))))))))
 [.t 0]
/- glowworm/frame.same -/
noncomputable def e133 : EFunc := EFunc.mk 57 true
 (s (o [p 4 (.mv (.c (.bool false)))])
 (s (s (o [p 14 (.mv (t 0))])
 (EC.block 0 (s (o [p 15 (.tas 173 (.agg [(.int .i64 0), (.int .i64 0), (.bool false)]) true (t 14)),
  p 16 (.ext (t 15) 1),
  p 17 (.ext (t 15) 0)])
 (EC.cond (t 16)
 (s (o [p 5 (.new [(.int .i64 0), (.int .i64 0), (.bool false)]),
  q (.st 3 (t 5) (t 17))])
 (s (o [p 19 (.mv (t 1)),
  p 20 (.tas 173 (.agg [(.int .i64 0), (.int .i64 0), (.bool false)]) true (t 19)),
  p 18 (.mv (t 20)),
  p 21 (.ext (t 18) 0),
  p 22 (.ext (t 18) 1),
  p 6 (.new [(.int .i64 0), (.int .i64 0), (.bool false)]),
  q (.st 3 (t 6) (t 21)),
  p 7 (.mv (t 22))])
 (s (o [p 23 (.mv (t 7)),
  p 24 (.mv (t 23)),
  w (some 25) (some (24, true)) (.ldn 3 (t 5)) 0 0 0,
  w (some 26) (some (24, true)) (.ldn 3 (t 6)) 0 0 0,
  w (some 27) (some (24, true)) (.aeq false [1, 1, 0] (t 25) (t 26)) 0 0 0,
  p 28 (.pick (t 24) (t 27) (.c (.bool false))),
  p 4 (.mv (t 28))])
 (EC.ret))))
 (s (o [p 29 (.tas 189 (.agg [(.int .i64 0), (.int .i64 0), (.bool false)]) true (t 14)),
  p 30 (.ext (t 29) 1),
  p 31 (.ext (t 29) 0)])
 (EC.cond (t 30)
 (s (o [p 8 (.new [(.int .i64 0), (.int .i64 0), (.bool false)]),
  q (.st 3 (t 8) (t 31))])
 (s (o [p 33 (.mv (t 1)),
  p 34 (.tas 189 (.agg [(.int .i64 0), (.int .i64 0), (.bool false)]) true (t 33)),
  p 32 (.mv (t 34)),
  p 35 (.ext (t 32) 0),
  p 36 (.ext (t 32) 1),
  p 9 (.new [(.int .i64 0), (.int .i64 0), (.bool false)]),
  q (.st 3 (t 9) (t 35)),
  p 10 (.mv (t 36))])
 (s (o [p 37 (.mv (t 10)),
  p 38 (.mv (t 37)),
  w (some 39) (some (38, true)) (.ldn 3 (t 8)) 0 0 0,
  w (some 40) (some (38, true)) (.ldn 3 (t 9)) 0 0 0,
  w (some 41) (some (38, true)) (.aeq false [1, 1, 0] (t 39) (t 40)) 0 0 0,
  p 42 (.pick (t 38) (t 41) (.c (.bool false))),
  p 4 (.mv (t 42))])
 (EC.ret))))
 (s (o [p 43 (.tas 158 (.agg [(.int .i64 0), (.bool false)]) true (t 14)),
  p 44 (.ext (t 43) 1),
  p 45 (.ext (t 43) 0)])
 (EC.cond (t 44)
 (s (o [p 11 (.new [(.int .i64 0), (.bool false)]),
  q (.st 2 (t 11) (t 45))])
 (s (o [p 47 (.mv (t 1)),
  p 48 (.tas 158 (.agg [(.int .i64 0), (.bool false)]) true (t 47)),
  p 46 (.mv (t 48)),
  p 49 (.ext (t 46) 0),
  p 50 (.ext (t 46) 1),
  p 12 (.new [(.int .i64 0), (.bool false)]),
  q (.st 2 (t 12) (t 49)),
  p 13 (.mv (t 50))])
 (s (o [p 51 (.mv (t 13)),
  p 52 (.mv (t 51)),
  w (some 53) (some (52, true)) (.ldn 2 (t 11)) 0 0 0,
  w (some 54) (some (52, true)) (.ldn 2 (t 12)) 0 0 0,
  w (some 55) (some (52, true)) (.aeq false [1, 0] (t 53) (t 54)) 0 0 0,
  p 56 (.pick (t 52) (t 55) (.c (.bool false))),
  p 4 (.mv (t 56))])
 (EC.ret))))
 (EC.skip)))))))))
 (s (o [p 4 (.mv (.c (.bool false)))])
 (EC.ret))))
 [.t 4]
/- unicode/utf8.DecodeRuneInString -/
noncomputable def e134 : EFunc := EFunc.mk 19 true
 (s (o [p 2 (.mv (.c (.int .i32 0))),
  p 3 (.mv (ii 0))])
 (s (s (o [p 4 (.mv (t 0)),
  p 5 (.sbin .neq (t 4) (.c (.str []))),
  p 6 (.mv (t 5)),
  w (some 7) (some (6, true)) (.mv (t 0)) 0 0 0,
  w (some 8) (some (6, true)) (.ixS (t 7) (ii 0)) 0 0 0,
  w (some 9) (some (6, true)) (.ibin .lss (t 8) (.c (.int .u8 128))) 0 0 0,
  p 10 (.pick (t 6) (t 9) (.c (.bool false)))])
 (EC.cond (t 10)
 (s (o [p 11 (.mv (t 0)),
  p 12 (.ixS (t 11) (ii 0)),
  p 13 (.cvI .i32 (t 12)),
  p 2 (.mv (t 13)),
  p 3 (.mv (ii 1))])
 (EC.ret))
 (o [p 15 (.mv (t 0)),
  p 16 (.pcall 147 [(t 15)]),
  p 14 (.mv (t 16)),
  p 17 (.ext (t 14) 0),
  p 18 (.ext (t 14) 1),
  p 2 (.mv (t 17)),
  p 3 (.mv (t 18))])))
 (EC.ret)))
 [.t 2, .t 3]
/- slices.order2Ordered[uint32] -/
noncomputable def e135 : EFunc := EFunc.mk 28 false
 (s (o [p 8 (.mv (ii 0)),
  p 9 (.mv (ii 0))])
 (s (s (EC.draw 9 [w (some 10) none (.mv (t 0)) 0 0 0,
  w (some 11) none (.mv (t 2)) 0 0 1,
  w (some 12) none (.ia 1 (t 10) (t 11)) 0 0 2,
  w (some 13) none (.ld1 (t 12)) 0 0 3,
  w (some 14) none (.mv (t 0)) 0 0 4,
  w (some 15) none (.mv (t 1)) 0 0 5,
  w (some 16) none (.ia 1 (t 14) (t 15)) 0 0 6,
  w (some 17) none (.ld1 (t 16)) 0 0 7,
  w (some 18) none (.pcall 101 [(t 13), (t 17)]) 0 0 8])
 (EC.cond (t 18)
 (s (o [p 19 (.mv (t 3)),
  p 20 (.nilchk (t 19)),
  p 21 (.ld1 (t 20)),
  p 22 (.ibin .add (t 21) (ii 1)),
  p 23 (.nilchk (t 19)),
  q (.st 1 (t 23) (t 22))])
 (s (o [p 24 (.mv (t 2)),
  p 25 (.mv (t 1)),
  p 8 (.mv (t 24)),
  p 9 (.mv (t 25))])
 (EC.ret)))
 (EC.skip)))
 (s (o [p 26 (.mv (t 1)),
  p 27 (.mv (t 2)),
  p 8 (.mv (t 26)),
  p 9 (.mv (t 27))])
 (EC.ret))))
 [.t 8, .t 9]
/- glowworm/ctl.May -/
noncomputable def e136 : EFunc := EFunc.mk 40 true
 (s (o [p 2 (.mv (.c (.bool false)))])
 (s (s (o [p 6 (.mv (t 0))])
 (EC.block 0 (s (o [p 7 (.tas 173 (.agg [(.int .i64 0), (.int .i64 0), (.bool false)]) true (t 6)),
  p 8 (.ext (t 7) 1),
  p 9 (.ext (t 7) 0)])
 (EC.cond (t 8)
 (s (o [p 3 (.new [(.int .i64 0), (.int .i64 0), (.bool false)]),
  q (.st 3 (t 3) (t 9))])
 (s (o [p 10 (.fa 0 (t 3)),
  p 11 (.ld1 (t 10)),
  p 12 (.pcall 148 [(t 11), (ii 8)]),
  p 13 (.mv (t 12)),
  w (some 14) (some (13, true)) (.fa 1 (t 3)) 0 0 0,
  w (some 15) (some (13, true)) (.ld1 (t 14)) 0 0 0,
  w (some 16) (some (13, true)) (.pcall 148 [(t 15), (ii 8)]) 0 0 0,
  p 17 (.pick (t 13) (t 16) (.c (.bool false))),
  p 2 (.mv (t 17))])
 (EC.ret)))
 (s (o [p 18 (.tas 189 (.agg [(.int .i64 0), (.int .i64 0), (.bool false)]) true (t 6)),
  p 19 (.ext (t 18) 1),
  p 20 (.ext (t 18) 0)])
 (EC.cond (t 19)
 (s (o [p 4 (.new [(.int .i64 0), (.int .i64 0), (.bool false)]),
  q (.st 3 (t 4) (t 20))])
 (s (o [p 21 (.fa 0 (t 4)),
  p 22 (.ld1 (t 21)),
  p 23 (.pcall 148 [(t 22), (ii 3)]),
  p 24 (.mv (t 23)),
  w (some 25) (some (24, true)) (.fa 1 (t 4)) 0 0 0,
  w (some 26) (some (24, true)) (.ld1 (t 25)) 0 0 0,
  w (some 27) (some (24, true)) (.pcall 148 [(t 26), (ii 8)]) 0 0 0,
  p 28 (.pick (t 24) (t 27) (.c (.bool false))),
  p 2 (.mv (t 28))])
 (EC.ret)))
 (s (o [p 29 (.tas 158 (.agg [(.int .i64 0), (.bool false)]) true (t 6)),
  p 30 (.ext (t 29) 1),
  p 31 (.ext (t 29) 0)])
 (EC.cond (t 30)
 (s (o [p 5 (.new [(.int .i64 0), (.bool false)]),
  q (.st 2 (t 5) (t 31))])
 (s (o [p 32 (.fa 0 (t 5)),
  p 33 (.ld1 (t 32)),
  p 34 (.ibin .geq (t 33) (ii 1)),
  p 35 (.mv (t 34)),
  w (some 36) (some (35, true)) (.fa 0 (t 5)) 0 0 0,
  w (some 37) (some (35, true)) (.ld1 (t 36)) 0 0 0,
  w (some 38) (some (35, true)) (.ibin .leq (t 37) (ii 7)) 0 0 0,
  p 39 (.pick (t 35) (t 38) (.c (.bool false))),
  p 2 (.mv (t 39))])
 (EC.ret)))
 (EC.skip)))))))))
 (s (o [p 2 (.mv (.c (.bool false)))])
 (EC.ret))))
 [.t 2]
/- glowworm/sir.Wrap -/
noncomputable def e137 : EFunc := EFunc.mk 19 false
 (s (o [p 4 (.mv (.c .nils))])
 (s (o [p 6 (.bslice 1 1 [(.int .u8 0)] [(0, 1, (.c (.int .u8 255)))]),
  p 7 (.mv (t 1)),
  p 8 (.mx [(t 7), (ii 0)]),
  p 9 (.mn [(t 8), (ii 10)]),
  p 10 (.call 149 [(t 6), (t 9)]),
  p 5 (.mv (t 10))])
 (s (o [p 11 (.mv (t 5)),
  p 12 (.bslice 1 1 [(.int .u8 0)] [(0, 1, (.c (.int .u8 192)))]),
  p 13 (.mv (t 0)),
  p 14 (.call 144 [(t 13)]),
  p 15 (.call 145 [(t 14)]),
  p 16 (.bslice 1 1 [(.int .u8 0)] [(0, 1, (.c (.int .u8 193)))]),
  p 17 (.bslice 1 4 [.nils, .nils, .nils, .nils] [(0, 1, (t 11)), (1, 1, (t 12)), (2, 1, (t 15)), (3, 1, (t 16))]),
  p 18 (.call 150 [(t 17)]),
  p 4 (.mv (t 18))])
 (EC.ret))))
 [.t 4]
/- glowworm/rx.All -/
noncomputable def e138 : EFunc := EFunc.mk 38 false
 (s (o [p 4 (.mv (.c .nils))])
 (s (o [p 12 (.mv (t 0)),
  p 13 (.call 139 [(t 12)]),
  p 5 (.mv (t 13))])
 (s (o [p 6 (.mv (.c .nils))])
 (s (s (o [p 14 (.mv (t 1)),
  p 15 (.len (t 14)),
  p 16 (.mv (ii 0))])
 (EC.block 0 (EC.loop (s (o [p 17 (.ibin .lss (t 16) (t 15))])
 (s (EC.cond (t 17)
 (EC.skip)
 (EC.exit 0))
 (s (EC.block 1 (s (o [p 18 (.ia 1 (t 14) (t 16)),
  p 19 (.ld1 (t 18)),
  p 8 (.mv (t 19))])
 (s (o [p 21 (.mv (t 5)),
  p 22 (.mv (t 8)),
  p 23 (.call 140 [(t 21), (t 22)]),
  p 20 (.mv (t 23)),
  p 24 (.ext (t 20) 0),
  p 25 (.ext (t 20) 1),
  p 26 (.ext (t 20) 2),
  p 9 (.mv (t 24)),
  p 10 (.mv (t 25)),
  p 11 (.mv (t 26))])
 (s (o [p 27 (.mv (t 11)),
  p 28 (.mv (t 27)),
  w (some 29) (some (28, true)) (.mv (t 10)) 0 0 0,
  w (some 30) (some (28, true)) (.ibin .eql (t 29) (ii 0)) 0 0 0,
  p 31 (.pick (t 28) (t 30) (.c (.bool false)))])
 (EC.cond (t 31)
 (o [p 32 (.mv (t 6)),
  p 33 (.mv (t 9)),
  p 34 (.bslice 1 1 [.nils] [(0, 1, (t 33))]),
  p 35 (.app 1 24 (t 32) (t 34)),
  p 6 (.mv (t 35))])
 (EC.skip))))))
 (o [p 36 (.ibin .add (t 16) (ii 1)),
  p 16 (.mv (t 36))])))))))
 (s (o [p 37 (.mv (t 6)),
  p 4 (.mv (t 37))])
 (EC.ret))))))
 [.t 4]
/- glowworm/rx.New -/
noncomputable def e139 : EFunc := EFunc.mk 8 false
 (s (o [p 2 (.mv (.c .nilp))])
 (s (o [p 3 (.mv (t 0)),
  p 4 (.mx [(t 3), (ii 1)]),
  p 5 (.mn [(t 4), (ii 200)]),
  p 6 (.build [(.int .i64 0), .nils, (.bool false), (.bool false)] [(0, 1, (t 5))]),
  p 7 (.box (t 6)),
  p 2 (.mv (t 7))])
 (EC.ret)))
 [.t 2]
/- (*glowworm/rx.Rx).Put -/
noncomputable def e140 : EFunc := EFunc.mk 86 false
 (s (o [p 4 (.mv (.c .nils)),
  p 5 (.mv (ii 0)),
  p 6 (.mv (.c (.bool false)))])
 (s (EC.block 0 (s (o [p 8 (.mv (t 0)),
  p 9 (.neq0 false 0 (t 8) (.c .nilp)),
  p 7 (.mv (t 9))])
 (EC.cond (t 7)
 (s (o [p 4 (.mv (.c .nils)),
  p 5 (.mv (ii 6)),
  p 6 (.mv (.c (.bool false)))])
 (EC.ret))
 (s (o [p 11 (.mv (t 1)),
  p 12 (.ibin .eql (t 11) (.c (.int .u8 192))),
  p 10 (.mv (t 12))])
 (EC.cond (t 10)
 (s (o [p 13 (.mv (t 0)),
  p 14 (.mv (t 0)),
  p 15 (.mv (t 0)),
  p 16 (.nilchk (t 13)),
  p 17 (.fa 1 (t 16)),
  q (.st 1 (t 17) (.c .nils)),
  p 18 (.nilchk (t 14)),
  p 19 (.fa 2 (t 18)),
  q (.st 1 (t 19) (.c (.bool true))),
  p 20 (.nilchk (t 15)),
  p 21 (.fa 3 (t 20)),
  q (.st 1 (t 21) (.c (.bool false)))])
 (s (o [p 4 (.mv (.c .nils)),
  p 5 (.mv (ii 0)),
  p 6 (.mv (.c (.bool false)))])
 (EC.ret)))
 (s (o [p 23 (.mv (t 0)),
  p 24 (.nilchk (t 23)),
  p 25 (.fa 2 (t 24)),
  p 26 (.ld1 (t 25)),
  p 27 (.un .not (t 26)),
  p 22 (.mv (t 27))])
 (EC.cond (t 22)
 (s (o [p 4 (.mv (.c .nils)),
  p 5 (.mv (ii 0)),
  p 6 (.mv (.c (.bool false)))])
 (EC.ret))
 (s (o [p 29 (.mv (t 1)),
  p 30 (.ibin .eql (t 29) (.c (.int .u8 193))),
  p 28 (.mv (t 30))])
 (EC.cond (t 28)
 (s (o [p 31 (.mv (t 0)),
  p 32 (.call 151 [(t 31)]),
  p 33 (.ext (t 32) 0),
  p 34 (.ext (t 32) 1),
  p 35 (.ext (t 32) 2),
  p 4 (.mv (t 33)),
  p 5 (.mv (t 34)),
  p 6 (.mv (t 35))])
 (EC.ret))
 (s (o [p 37 (.mv (t 1)),
  p 38 (.ibin .eql (t 37) (.c (.int .u8 125))),
  p 39 (.mv (t 38)),
  w (some 40) (some (39, true)) (.mv (t 0)) 0 0 0,
  w (some 41) (some (39, true)) (.nilchk (t 40)) 0 0 0,
  w (some 42) (some (39, true)) (.fa 3 (t 41)) 0 0 0,
  w (some 43) (some (39, true)) (.ld1 (t 42)) 0 0 0,
  w (some 44) (some (39, true)) (.un .not (t 43)) 0 0 0,
  p 45 (.pick (t 39) (t 44) (.c (.bool false))),
  p 36 (.mv (t 45))])
 (EC.cond (t 36)
 (s (o [p 46 (.mv (t 0)),
  p 47 (.nilchk (t 46)),
  p 48 (.fa 3 (t 47)),
  q (.st 1 (t 48) (.c (.bool true)))])
 (s (o [p 4 (.mv (.c .nils)),
  p 5 (.mv (ii 0)),
  p 6 (.mv (.c (.bool false)))])
 (EC.ret)))
 (s (o [p 50 (.mv (t 0)),
  p 51 (.nilchk (t 50)),
  p 52 (.fa 3 (t 51)),
  p 53 (.ld1 (t 52)),
  p 49 (.mv (t 53))])
 (EC.cond (t 49)
 (s (o [p 54 (.mv (t 1)),
  p 55 (.ibin .xor (t 54) (.c (.int .u8 32))),
  p 1 (.mv (t 55))])
 (o [p 56 (.mv (t 0)),
  p 57 (.nilchk (t 56)),
  p 58 (.fa 3 (t 57)),
  q (.st 1 (t 58) (.c (.bool false)))]))
 (EC.skip))))))))))))))
 (s (o [p 59 (.mv (t 0)),
  p 60 (.mv (t 0)),
  p 61 (.nilchk (t 60)),
  p 62 (.fa 1 (t 61)),
  p 63 (.ld1 (t 62)),
  p 64 (.mv (t 1)),
  p 65 (.bslice 1 1 [(.int .u8 0)] [(0, 1, (t 64))]),
  p 66 (.app 1 1 (t 63) (t 65)),
  p 67 (.nilchk (t 59)),
  p 68 (.fa 1 (t 67)),
  q (.st 1 (t 68) (t 66))])
 (s (s (EC.draw 11 [w (some 69) none (.mv (t 0)) 0 0 0,
  w (some 70) none (.nilchk (t 69)) 0 0 1,
  w (some 71) none (.fa 1 (t 70)) 0 0 2,
  w (some 72) none (.ld1 (t 71)) 0 0 3,
  w (some 73) none (.len (t 72)) 0 0 4,
  w (some 74) none (.mv (t 0)) 0 0 5,
  w (some 75) none (.nilchk (t 74)) 0 0 6,
  w (some 76) none (.fa 0 (t 75)) 0 0 7,
  w (some 77) none (.ld1 (t 76)) 0 0 8,
  w (some 78) none (.ibin .add (t 77) (ii 2)) 0 0 9,
  w (some 79) none (.ibin .gtr (t 73) (t 78)) 0 0 10])
 (EC.cond (t 79)
 (s (o [p 80 (.mv (t 0)),
  p 81 (.mv (t 0)),
  p 82 (.nilchk (t 80)),
  p 83 (.fa 1 (t 82)),
  q (.st 1 (t 83) (.c .nils)),
  p 84 (.nilchk (t 81)),
  p 85 (.fa 2 (t 84)),
  q (.st 1 (t 85) (.c (.bool false)))])
 (s (o [p 4 (.mv (.c .nils)),
  p 5 (.mv (ii 7)),
  p 6 (.mv (.c (.bool true)))])
 (EC.ret)))
 (EC.skip)))
 (s (o [p 4 (.mv (.c .nils)),
  p 5 (.mv (ii 0)),
  p 6 (.mv (.c (.bool false)))])
 (EC.ret))))))
 [.t 4, .t 5, .t 6]
/- (*glowworm/rx.Rx).In -/
noncomputable def e141 : EFunc := EFunc.mk 11 false
 (s (o [p 2 (.mv (.c (.bool false)))])
 (s (o [p 3 (.mv (t 0)),
  p 4 (.neq0 true 0 (t 3) (.c .nilp)),
  p 5 (.mv (t 4)),
  w (some 6) (some (5, true)) (.mv (t 0)) 0 0 0,
  w (some 7) (some (5, true)) (.nilchk (t 6)) 0 0 0,
  w (some 8) (some (5, true)) (.fa 2 (t 7)) 0 0 0,
  w (some 9) (some (5, true)) (.ld1 (t 8)) 0 0 0,
  p 10 (.pick (t 5) (t 9) (.c (.bool false))),
  p 2 (.mv (t 10))])
 (EC.ret)))
 [.t 2]
/- glowworm/crc.Of -/
noncomputable def e142 : EFunc := EFunc.mk 18 false
 (s (o [p 2 (.mv (.c (.int .u16 0)))])
 (s (o [p 3 (.mv (.c (.int .u16 65535)))])
 (s (s (o [p 6 (.mv (t 0)),
  p 7 (.len (t 6)),
  p 8 (.mv (ii 0))])
 (EC.block 0 (EC.loop (s (o [p 9 (.ibin .lss (t 8) (t 7))])
 (s (EC.cond (t 9)
 (EC.skip)
 (EC.exit 0))
 (s (EC.block 1 (s (o [p 10 (.ia 1 (t 6) (t 8)),
  p 11 (.ld1 (t 10)),
  p 5 (.mv (t 11))])
 (o [p 12 (.mv (t 3)),
  p 13 (.mv (t 5)),
  p 14 (.pcall 152 [(t 12), (t 13)]),
  p 3 (.mv (t 14))])))
 (o [p 15 (.ibin .add (t 8) (ii 1)),
  p 8 (.mv (t 15))])))))))
 (s (o [p 16 (.mv (t 3)),
  p 17 (.un .xor (t 16)),
  p 2 (.mv (t 17))])
 (EC.ret)))))
 [.t 2]
/- glowworm/crc.Fine -/
noncomputable def e143 : EFunc := EFunc.mk 17 false
 (s (o [p 2 (.mv (.c (.bool false)))])
 (s (o [p 4 (.mv (t 0)),
  p 5 (.len (t 4)),
  p 6 (.ibin .sub (t 5) (ii 2)),
  p 3 (.mv (t 6))])
 (s (o [p 7 (.mv (t 3)),
  p 8 (.ibin .geq (t 7) (ii 0)),
  p 9 (.mv (t 8)),
  w (some 10) (some (9, true)) (.mv (t 0)) 0 0 0,
  w (some 11) (some (9, true)) (.mv (t 3)) 0 0 0,
  w (some 12) (some (9, true)) (.slL 1 (t 10) none (some (t 11)) none) 0 0 0,
  w (some 13) (some (9, true)) (.call 144 [(t 12)]) 0 0 0,
  w (some 14) (some (9, true)) (.mv (t 0)) 0 0 0,
  w (some 15) (some (9, true)) (.call 153 [(t 13), (t 14)]) 0 0 0,
  p 16 (.pick (t 9) (t 15) (.c (.bool false))),
  p 2 (.mv (t 16))])
 (EC.ret))))
 [.t 2]
/- glowworm/crc.Put -/
noncomputable def e144 : EFunc := EFunc.mk 15 false
 (s (o [p 2 (.mv (.c .nils))])
 (s (o [p 4 (.mv (t 0)),
  p 5 (.call 142 [(t 4)]),
  p 3 (.mv (t 5))])
 (s (o [p 6 (.mv (t 0)),
  p 7 (.call 154 [(t 6)]),
  p 8 (.mv (t 3)),
  p 9 (.cvI .u8 (t 8)),
  p 10 (.mv (t 3)),
  p 11 (.ibin .shr (t 10) (.c (.int .u64 8))),
  p 12 (.cvI .u8 (t 11)),
  p 13 (.bslice 1 2 [(.int .u8 0), (.int .u8 0)] [(0, 1, (t 9)), (1, 1, (t 12))]),
  p 14 (.app 1 1 (t 7) (t 13)),
  p 2 (.mv (t 14))])
 (EC.ret))))
 [.t 2]
/- glowworm/sir.Escape -/
noncomputable def e145 : EFunc := EFunc.mk 33 false
 (s (o [p 2 (.mv (.c .nils))])
 (s (o [p 3 (.mv (.c .nils))])
 (s (s (o [p 6 (.mv (t 0)),
  p 7 (.len (t 6)),
  p 8 (.mv (ii 0))])
 (EC.block 0 (EC.loop (s (o [p 9 (.ibin .lss (t 8) (t 7))])
 (s (EC.cond (t 9)
 (EC.skip)
 (EC.exit 0))
 (s (EC.block 1 (s (o [p 10 (.ia 1 (t 6) (t 8)),
  p 11 (.ld1 (t 10)),
  p 5 (.mv (t 11))])
 (s (o [p 12 (.mv (t 5)),
  p 13 (.ibin .eql (t 12) (.c (.int .u8 192))),
  p 14 (.mv (t 13)),
  w (some 15) (some (14, false)) (.mv (t 5)) 0 0 0,
  w (some 16) (some (14, false)) (.ibin .eql (t 15) (.c (.int .u8 193))) 0 0 0,
  p 17 (.pick (t 14) (.c (.bool true)) (t 16)),
  p 18 (.mv (t 17)),
  w (some 19) (some (18, false)) (.mv (t 5)) 0 0 0,
  w (some 20) (some (18, false)) (.ibin .eql (t 19) (.c (.int .u8 125))) 0 0 0,
  p 21 (.pick (t 18) (.c (.bool true)) (t 20))])
 (EC.cond (t 21)
 (o [p 22 (.mv (t 3)),
  p 23 (.mv (t 5)),
  p 24 (.ibin .xor (t 23) (.c (.int .u8 32))),
  p 25 (.bslice 1 2 [(.int .u8 0), (.int .u8 0)] [(0, 1, (.c (.int .u8 125))), (1, 1, (t 24))]),
  p 26 (.app 1 1 (t 22) (t 25)),
  p 3 (.mv (t 26))])
 (o [p 27 (.mv (t 3)),
  p 28 (.mv (t 5)),
  p 29 (.bslice 1 1 [(.int .u8 0)] [(0, 1, (t 28))]),
  p 30 (.app 1 1 (t 27) (t 29)),
  p 3 (.mv (t 30))])))))
 (o [p 31 (.ibin .add (t 8) (ii 1)),
  p 8 (.mv (t 31))])))))))
 (s (o [p 32 (.mv (t 3)),
  p 2 (.mv (t 32))])
 (EC.ret)))))
 [.t 2]
/- glowworm/sir.Abort -/
noncomputable def e146 : EFunc := EFunc.mk 9 false
 (s (o [p 2 (.mv (.c .nils))])
 (s (o [p 3 (.bslice 1 1 [(.int .u8 0)] [(0, 1, (.c (.int .u8 192)))]),
  p 4 (.mv (t 0)),
  p 5 (.call 145 [(t 4)]),
  p 6 (.bslice 1 2 [(.int .u8 0), (.int .u8 0)] [(0, 1, (.c (.int .u8 125))), (1, 1, (.c (.int .u8 193)))]),
  p 7 (.bslice 1 3 [.nils, .nils, .nils] [(0, 1, (t 3)), (1, 1, (t 5)), (2, 1, (t 6))]),
  p 8 (.call 150 [(t 7)]),
  p 2 (.mv (t 8))])
 (EC.ret)))
 [.t 2]
/- unicode/utf8.decodeRuneInStringSlow -/
noncomputable def e147 : EFunc := EFunc.mk 117 true
 (s (o [p 2 (.mv (.c (.int .i32 0))),
  p 3 (.mv (ii 0))])
 (s (o [p 13 (.mv (t 0)),
  p 14 (.lenS (t 13)),
  p 4 (.mv (t 14))])
 (s (s (o [p 15 (.mv (t 4)),
  p 16 (.ibin .lss (t 15) (ii 1))])
 (EC.cond (t 16)
 (s (o [p 2 (.mv (.c (.int .i32 65533))),
  p 3 (.mv (ii 0))])
 (EC.ret))
 (EC.skip)))
 (s (o [p 17 (.mv (t 0)),
  p 18 (.ixS (t 17) (ii 0)),
  p 5 (.mv (t 18))])
 (s (o [p 19 (.mv (t 5)),
  p 20 (.iaA 1 256 (.c (.ptr 1 0)) (t 19)),
  p 21 (.ld1 (t 20)),
  p 6 (.mv (t 21))])
 (s (s (o [p 22 (.mv (t 6)),
  p 23 (.ibin .geq (t 22) (.c (.int .u8 240)))])
 (EC.cond (t 23)
 (s (o [p 24 (.mv (t 6)),
  p 25 (.cvI .i32 (t 24)),
  p 26 (.ibin .shl (t 25) (.c (.int .u64 31))),
  p 27 (.ibin .shr (t 26) (.c (.int .u64 31))),
  p 7 (.mv (t 27))])
 (s (o [p 28 (.mv (t 0)),
  p 29 (.ixS (t 28) (ii 0)),
  p 30 (.cvI .i32 (t 29)),
  p 31 (.mv (t 7)),
  p 32 (.ibin .andNot (t 30) (t 31)),
  p 33 (.mv (t 7)),
  p 34 (.ibin .and (.c (.int .i32 65533)) (t 33)),
  p 35 (.ibin .or (t 32) (t 34)),
  p 2 (.mv (t 35)),
  p 3 (.mv (ii 1))])
 (EC.ret)))
 (EC.skip)))
 (s (o [p 36 (.mv (t 6)),
  p 37 (.ibin .and (t 36) (.c (.int .u8 7))),
  p 38 (.cvI .i64 (t 37)),
  p 8 (.mv (t 38))])
 (s (o [p 39 (.mv (t 6)),
  p 40 (.ibin .shr (t 39) (.c (.int .u64 4))),
  p 41 (.iaA 2 16 (.c (.ptr 2 0)) (t 40)),
  p 42 (.ldn 2 (t 41)),
  p 9 (.new [(.int .u8 0), (.int .u8 0)]),
  q (.st 2 (t 9) (t 42))])
 (s (s (o [p 43 (.mv (t 4)),
  p 44 (.mv (t 8)),
  p 45 (.ibin .lss (t 43) (t 44))])
 (EC.cond (t 45)
 (s (o [p 2 (.mv (.c (.int .i32 65533))),
  p 3 (.mv (ii 1))])
 (EC.ret))
 (EC.skip)))
 (s (o [p 46 (.mv (t 0)),
  p 47 (.ixS (t 46) (ii 1)),
  p 10 (.mv (t 47))])
 (s (s (o [p 48 (.mv (t 10)),
  p 49 (.fa 0 (t 9)),
  p 50 (.ld1 (t 49)),
  p 51 (.ibin .lss (t 48) (t 50)),
  p 52 (.mv (t 51)),
  w (some 53) (some (52, false)) (.fa 1 (t 9)) 0 0 0,
  w (some 54) (some (52, false)) (.ld1 (t 53)) 0 0 0,
  w (some 55) (some (52, false)) (.mv (t 10)) 0 0 0,
  w (some 56) (some (52, false)) (.ibin .lss (t 54) (t 55)) 0 0 0,
  p 57 (.pick (t 52) (.c (.bool true)) (t 56))])
 (EC.cond (t 57)
 (s (o [p 2 (.mv (.c (.int .i32 65533))),
  p 3 (.mv (ii 1))])
 (EC.ret))
 (EC.skip)))
 (s (s (o [p 58 (.mv (t 8)),
  p 59 (.ibin .leq (t 58) (ii 2))])
 (EC.cond (t 59)
 (s (o [p 60 (.mv (t 5)),
  p 61 (.ibin .and (t 60) (.c (.int .u8 31))),
  p 62 (.cvI .i32 (t 61)),
  p 63 (.ibin .shl (t 62) (.c (.int .u64 6))),
  p 64 (.mv (t 10)),
  p 65 (.ibin .and (t 64) (.c (.int .u8 63))),
  p 66 (.cvI .i32 (t 65)),
  p 67 (.ibin .or (t 63) (t 66)),
  p 2 (.mv (t 67)),
  p 3 (.mv (ii 2))])
 (EC.ret))
 (EC.skip)))
 (s (o [p 68 (.mv (t 0)),
  p 69 (.ixS (t 68) (ii 2)),
  p 11 (.mv (t 69))])
 (s (s (o [p 70 (.mv (t 11)),
  p 71 (.ibin .lss (t 70) (.c (.int .u8 128))),
  p 72 (.mv (t 71)),
  w (some 73) (some (72, false)) (.mv (t 11)) 0 0 0,
  w (some 74) (some (72, false)) (.ibin .lss (.c (.int .u8 191)) (t 73)) 0 0 0,
  p 75 (.pick (t 72) (.c (.bool true)) (t 74))])
 (EC.cond (t 75)
 (s (o [p 2 (.mv (.c (.int .i32 65533))),
  p 3 (.mv (ii 1))])
 (EC.ret))
 (EC.skip)))
 (s (s (o [p 76 (.mv (t 8)),
  p 77 (.ibin .leq (t 76) (ii 3))])
 (EC.cond (t 77)
 (s (o [p 78 (.mv (t 5)),
  p 79 (.ibin .and (t 78) (.c (.int .u8 15))),
  p 80 (.cvI .i32 (t 79)),
  p 81 (.ibin .shl (t 80) (.c (.int .u64 12))),
  p 82 (.mv (t 10)),
  p 83 (.ibin .and (t 82) (.c (.int .u8 63))),
  p 84 (.cvI .i32 (t 83)),
  p 85 (.ibin .shl (t 84) (.c (.int .u64 6))),
  p 86 (.ibin .or (t 81) (t 85)),
  p 87 (.mv (t 11)),
  p 88 (.ibin .and (t 87) (.c (.int .u8 63))),
  p 89 (.cvI .i32 (t 88)),
  p 90 (.ibin .or (t 86) (t 89)),
  p 2 (.mv (t 90)),
  p 3 (.mv (ii 3))])
 (EC.ret))
 (EC.skip)))
 (s (o [p 91 (.mv (t 0)),
  p 92 (.ixS (t 91) (ii 3)),
  p 12 (.mv (t 92))])
 (s (s (o [p 93 (.mv (t 12)),
  p 94 (.ibin .lss (t 93) (.c (.int .u8 128))),
  p 95 (.mv (t 94)),
  w (some 96) (some (95, false)) (.mv (t 12)) 0 0 0,
  w (some 97) (some (95, false)) (.ibin .lss (.c (.int .u8 191)) (t 96)) 0 0 0,
  p 98 (.pick (t 95) (.c (.bool true)) (t 97))])
 (EC.cond (t 98)
 (s (o [p 2 (.mv (.c (.int .i32 65533))),
  p 3 (.mv (ii 1))])
 (EC.ret))
 (EC.skip)))
 (s (o [p 99 (.mv (t 5)),
  p 100 (.ibin .and (t 99) (.c (.int .u8 7))),
  p 101 (.cvI .i32 (t 100)),
  p 102 (.ibin .shl (t 101) (.c (.int .u64 18))),
  p 103 (.mv (t 10)),
  p 104 (.ibin .and (t 103) (.c (.int .u8 63))),
  p 105 (.cvI .i32 (t 104)),
  p 106 (.ibin .shl (t 105) (.c (.int .u64 12))),
  p 107 (.ibin .or (t 102) (t 106)),
  p 108 (.mv (t 11)),
  p 109 (.ibin .and (t 108) (.c (.int .u8 63))),
  p 110 (.cvI .i32 (t 109)),
  p 111 (.ibin .shl (t 110) (.c (.int .u64 6))),
  p 112 (.ibin .or (t 107) (t 111)),
  p 113 (.mv (t 12)),
  p 114 (.ibin .and (t 113) (.c (.int .u8 63))),
  p 115 (.cvI .i32 (t 114)),
  p 116 (.ibin .or (t 112) (t 115)),
  p 2 (.mv (t 116)),
  p 3 (.mv (ii 4))])
 (EC.ret)))))))))))))))))))
 [.t 2, .t 3]
/- glowworm/ctl.few -/
noncomputable def e148 : EFunc := EFunc.mk 12 true
 (s (o [p 4 (.mv (.c (.bool false)))])
 (s (o [p 5 (.mv (t 0)),
  p 6 (.ibin .geq (t 5) (ii 0)),
  p 7 (.mv (t 6)),
  w (some 8) (some (7, true)) (.mv (t 0)) 0 0 0,
  w (some 9) (some (7, true)) (.mv (t 1)) 0 0 0,
  w (some 10) (some (7, true)) (.ibin .lss (t 8) (t 9)) 0 0 0,
  p 11 (.pick (t 7) (t 10) (.c (.bool false))),
  p 4 (.mv (t 11))])
 (EC.ret)))
 [.t 4]
/- slices.Repeat[[]byte,byte] -/
noncomputable def e149 : EFunc := EFunc.mk 48 false
 (s (o [p 4 (.mv (.c .nils))])
 (s (s (o [p 9 (.mv (t 1)),
  p 10 (.ibin .lss (t 9) (ii 0))])
 (EC.cond (t 10)
 (o [p 11 (.mkI 9 (.c (.str [99, 97, 110, 110, 111, 116, 32, 98, 101, 32, 110, 101, 103, 97, 116, 105, 118, 101]))),
  q (.bad)])
 (EC.skip)))
 (s (o [p 13 (.mv (t 0)),
  p 14 (.len (t 13)),
  p 15 (.cvI .u64 (t 14)),
  p 16 (.mv (t 1)),
  p 17 (.cvI .u64 (t 16)),
  p 18 (.pcall 155 [(t 15), (t 17)]),
  p 12 (.mv (t 18)),
  p 19 (.ext (t 12) 0),
  p 20 (.ext (t 12) 1),
  p 5 (.mv (t 19)),
  p 6 (.mv (t 20))])
 (s (s (o [p 21 (.mv (t 5)),
  p 22 (.ibin .gtr (t 21) (.c (.int .u64 0))),
  p 23 (.mv (t 22)),
  w (some 24) (some (23, false)) (.mv (t 6)) 0 0 0,
  w (some 25) (some (23, false)) (.ibin .gtr (t 24) (.c (.int .u64 9223372036854775807))) 0 0 0,
  p 26 (.pick (t 23) (.c (.bool true)) (t 25))])
 (EC.cond (t 26)
 (o [p 27 (.mkI 9 (.c (.str [116, 104, 101, 32, 114, 101, 115, 117, 108, 116, 32, 111, 102, 32, 40, 108, 101, 110, 40, 120, 41, 32, 42, 32, 99, 111, 117, 110, 116, 41, 32, 111, 118, 101, 114, 102, 108, 111, 119, 115]))),
  q (.bad)])
 (EC.skip)))
 (s (o [p 28 (.mv (t 6)),
  p 29 (.cvI .i64 (t 28)),
  p 30 (.mkSlice 1 1 [(.int .u8 0)] (t 29) (t 29)),
  p 7 (.mv (t 30))])
 (s (o [p 31 (.mv (t 7)),
  p 32 (.mv (t 0)),
  p 33 (.copy 1 (t 31) (t 32)),
  p 8 (.mv (t 33))])
 (s (EC.block 0 (EC.loop (s (s (o [p 34 (.mv (t 8)),
  p 35 (.mv (t 7)),
  p 36 (.len (t 35)),
  p 37 (.ibin .lss (t 34) (t 36))])
 (EC.cond (t 37)
 (EC.skip)
 (EC.exit 0)))
 (EC.block 1 (EC.draw 10 [w (some 38) none (.mv (t 8)) 0 1 0,
  w (some 39) none (.mv (t 7)) 0 0 1,
  w (some 40) none (.mv (t 8)) 0 0 2,
  w (some 41) none (.slL 1 (t 39) (some (t 40)) none none) 0 0 3,
  w (some 42) none (.mv (t 7)) 0 0 4,
  w (some 43) none (.mv (t 8)) 0 0 5,
  w (some 44) none (.slL 1 (t 42) none (some (t 43)) none) 0 0 6,
  w (some 45) none (.copy 1 (t 41) (t 44)) 0 1 7,
  w (some 46) none (.ibin .add (t 38) (t 45)) 1 1 8,
  w (some 8) none (.mv (t 46)) 1 1 9])))))
 (s (o [p 47 (.mv (t 7)),
  p 4 (.mv (t 47))])
 (EC.ret)))))))))
 [.t 4]
/- slices.Concat[[]byte,byte] -/
noncomputable def e150 : EFunc := EFunc.mk 36 false
 (s (o [p 2 (.mv (.c .nils))])
 (s (o [p 3 (.mv (ii 0))])
 (s (s (o [p 9 (.mv (t 0)),
  p 10 (.len (t 9)),
  p 11 (.mv (ii 0))])
 (EC.block 0 (EC.loop (s (o [p 12 (.ibin .lss (t 11) (t 10))])
 (s (EC.cond (t 12)
 (EC.skip)
 (EC.exit 0))
 (s (EC.block 1 (s (o [p 13 (.ia 1 (t 9) (t 11)),
  p 14 (.ld1 (t 13)),
  p 5 (.mv (t 14))])
 (s (o [p 15 (.mv (t 3)),
  p 16 (.mv (t 5)),
  p 17 (.len (t 16)),
  p 18 (.ibin .add (t 15) (t 17)),
  p 3 (.mv (t 18))])
 (s (o [p 19 (.mv (t 3)),
  p 20 (.ibin .lss (t 19) (ii 0))])
 (EC.cond (t 20)
 (o [p 21 (.mkI 9 (.c (.str [108, 101, 110, 32, 111, 117, 116, 32, 111, 102, 32, 114, 97, 110, 103, 101]))),
  q (.bad)])
 (EC.skip))))))
 (o [p 22 (.ibin .add (t 11) (ii 1)),
  p 11 (.mv (t 22))])))))))
 (s (o [p 23 (.mv (t 3)),
  p 24 (.call 156 [(.c .nils), (t 23)]),
  p 6 (.mv (t 24))])
 (s (s (o [p 25 (.mv (t 0)),
  p 26 (.len (t 25)),
  p 27 (.mv (ii 0))])
 (EC.block 2 (EC.loop (s (o [p 28 (.ibin .lss (t 27) (t 26))])
 (s (EC.cond (t 28)
 (EC.skip)
 (EC.exit 2))
 (s (EC.block 3 (s (o [p 29 (.ia 1 (t 25) (t 27)),
  p 30 (.ld1 (t 29)),
  p 8 (.mv (t 30))])
 (o [p 31 (.mv (t 6)),
  p 32 (.mv (t 8)),
  p 33 (.app 1 1 (t 31) (t 32)),
  p 6 (.mv (t 33))])))
 (o [p 34 (.ibin .add (t 27) (ii 1)),
  p 27 (.mv (t 34))])))))))
 (s (o [p 35 (.mv (t 6)),
  p 2 (.mv (t 35))])
 (EC.ret)))))))
 [.t 2]
/- (*glowworm/rx.Rx).ends -/
noncomputable def e151 : EFunc := EFunc.mk 41 false
 (s (o [p 2 (.mv (.c .nils)),
  p 3 (.mv (ii 0)),
  p 4 (.mv (.c (.bool false)))])
 (s (EC.draw 10 [w (some 7) none (.mv (t 0)) 0 0 0,
  w (some 8) none (.nilchk (t 7)) 0 0 1,
  w (some 9) none (.fa 1 (t 8)) 0 0 2,
  w (some 10) none (.ld1 (t 9)) 0 0 3,
  w (some 11) none (.mv (t 0)) 0 0 4,
  w (some 12) none (.nilchk (t 11)) 0 0 5,
  w (some 13) none (.fa 3 (t 12)) 0 0 6,
  w (some 14) none (.ld1 (t 13)) 0 0 7,
  w (some 5) none (.mv (t 10)) 0 0 8,
  w (some 6) none (.mv (t 14)) 0 0 9])
 (s (o [p 15 (.mv (t 0)),
  p 16 (.mv (t 0)),
  p 17 (.mv (t 0)),
  p 18 (.nilchk (t 15)),
  p 19 (.fa 1 (t 18)),
  q (.st 1 (t 19) (.c .nils)),
  p 20 (.nilchk (t 16)),
  p 21 (.fa 2 (t 20)),
  q (.st 1 (t 21) (.c (.bool false))),
  p 22 (.nilchk (t 17)),
  p 23 (.fa 3 (t 22)),
  q (.st 1 (t 23) (.c (.bool false)))])
 (s (EC.block 0 (s (o [p 25 (.mv (t 6)),
  p 24 (.mv (t 25))])
 (EC.cond (t 24)
 (s (o [p 2 (.mv (.c .nils)),
  p 3 (.mv (ii 9)),
  p 4 (.mv (.c (.bool true)))])
 (EC.ret))
 (s (o [p 27 (.mv (t 5)),
  p 28 (.len (t 27)),
  p 29 (.ibin .leq (t 28) (ii 2)),
  p 30 (.mv (t 29)),
  w (some 31) (some (30, false)) (.mv (t 5)) 0 0 0,
  w (some 32) (some (30, false)) (.call 143 [(t 31)]) 0 0 0,
  w (some 33) (some (30, false)) (.un .not (t 32)) 0 0 0,
  p 34 (.pick (t 30) (.c (.bool true)) (t 33)),
  p 26 (.mv (t 34))])
 (EC.cond (t 26)
 (s (o [p 2 (.mv (.c .nils)),
  p 3 (.mv (ii 8)),
  p 4 (.mv (.c (.bool true)))])
 (EC.ret))
 (EC.skip))))))
 (s (o [p 35 (.mv (t 5)),
  p 36 (.mv (t 5)),
  p 37 (.len (t 36)),
  p 38 (.ibin .sub (t 37) (ii 2)),
  p 39 (.slL 1 (t 35) none (some (t 38)) none),
  p 40 (.call 154 [(t 39)]),
  p 2 (.mv (t 40)),
  p 3 (.mv (ii 0)),
  p 4 (.mv (.c (.bool true)))])
 (EC.ret))))))
 [.t 2, .t 3, .t 4]
/- glowworm/crc.Add -/
noncomputable def e152 : EFunc := EFunc.mk 22 true
 (s (o [p 4 (.mv (.c (.int .u16 0)))])
 (s (o [p 6 (.mv (t 0)),
  p 7 (.mv (t 1)),
  p 8 (.cvI .u16 (t 7)),
  p 9 (.ibin .xor (t 6) (t 8)),
  p 0 (.mv (t 9))])
 (s (s (o [p 10 (.mv (ii 0))])
 (EC.block 0 (EC.loop (s (o [p 11 (.ibin .lss (t 10) (ii 8))])
 (s (EC.cond (t 11)
 (EC.skip)
 (EC.exit 0))
 (s (EC.block 1 (s (o [p 12 (.mv (t 0)),
  p 13 (.ibin .and (t 12) (.c (.int .u16 1))),
  p 5 (.mv (t 13))])
 (s (o [p 14 (.mv (t 0)),
  p 15 (.ibin .shr (t 14) (.c (.int .u64 1))),
  p 0 (.mv (t 15))])
 (s (o [p 16 (.mv (t 5)),
  p 17 (.ibin .eql (t 16) (.c (.int .u16 1)))])
 (EC.cond (t 17)
 (o [p 18 (.mv (t 0)),
  p 19 (.ibin .xor (t 18) (.c (.int .u16 33800))),
  p 0 (.mv (t 19))])
 (EC.skip))))))
 (o [p 20 (.ibin .add (t 10) (ii 1)),
  p 10 (.mv (t 20))])))))))
 (s (o [p 21 (.mv (t 0)),
  p 4 (.mv (t 21))])
 (EC.ret)))))
 [.t 4]
/- slices.Equal[[]byte,byte] -/
noncomputable def e153 : EFunc := EFunc.mk 26 false
 (s (o [p 4 (.mv (.c (.bool false)))])
 (s (s (o [p 6 (.mv (t 0)),
  p 7 (.len (t 6)),
  p 8 (.mv (t 1)),
  p 9 (.len (t 8)),
  p 10 (.ibin .neq (t 7) (t 9))])
 (EC.cond (t 10)
 (s (o [p 4 (.mv (.c (.bool false)))])
 (EC.ret))
 (EC.skip)))
 (s (s (o [p 11 (.mv (t 0)),
  p 12 (.len (t 11)),
  p 13 (.mv (ii 0))])
 (EC.block 0 (EC.loop (s (o [p 14 (.ibin .lss (t 13) (t 12))])
 (s (EC.cond (t 14)
 (EC.skip)
 (EC.exit 0))
 (s (EC.block 1 (s (o [p 15 (.mv (t 13)),
  p 5 (.mv (t 15))])
 (s (EC.draw 9 [w (some 16) none (.mv (t 0)) 0 0 0,
  w (some 17) none (.mv (t 5)) 0 0 1,
  w (some 18) none (.ia 1 (t 16) (t 17)) 0 0 2,
  w (some 19) none (.ld1 (t 18)) 0 0 3,
  w (some 20) none (.mv (t 1)) 0 0 4,
  w (some 21) none (.mv (t 5)) 0 0 5,
  w (some 22) none (.ia 1 (t 20) (t 21)) 0 0 6,
  w (some 23) none (.ld1 (t 22)) 0 0 7,
  w (some 24) none (.ibin .neq (t 19) (t 23)) 0 0 8])
 (EC.cond (t 24)
 (s (o [p 4 (.mv (.c (.bool false)))])
 (EC.ret))
 (EC.skip)))))
 (o [p 25 (.ibin .add (t 13) (ii 1)),
  p 13 (.mv (t 25))])))))))
 (s (o [p 4 (.mv (.c (.bool true)))])
 (EC.ret)))))
 [.t 4]
/- slices.Clone[[]byte,byte] -/
noncomputable def e154 : EFunc := EFunc.mk 8 false
 (s (o [p 2 (.mv (.c .nils))])
 (s (s (o [p 3 (.mv (t 0)),
  p 4 (.neq0 false 1 (t 3) (.c .nils))])
 (EC.cond (t 4)
 (s (o [p 2 (.mv (.c .nils))])
 (EC.ret))
 (EC.skip)))
 (s (o [p 5 (.bslice 1 0 [] []),
  p 6 (.mv (t 0)),
  p 7 (.app 1 1 (t 5) (t 6)),
  p 2 (.mv (t 7))])
 (EC.ret))))
 [.t 2]
/- math/bits.Mul -/
noncomputable def e155 : EFunc := EFunc.mk 30 true
 (s (o [p 4 (.mv (.c (.int .u64 0))),
  p 5 (.mv (.c (.int .u64 0)))])
 (s (EC.cond (.c (.bool false))
 (s (o [p 11 (.mv (t 0)),
  p 12 (.cvI .u32 (t 11)),
  p 13 (.mv (t 1)),
  p 14 (.cvI .u32 (t 13)),
  p 15 (.pcall 157 [(t 12), (t 14)]),
  p 10 (.mv (t 15)),
  p 16 (.ext (t 10) 0),
  p 17 (.ext (t 10) 1),
  p 6 (.mv (t 16)),
  p 7 (.mv (t 17))])
 (s (o [p 18 (.mv (t 6)),
  p 19 (.cvI .u64 (t 18)),
  p 20 (.mv (t 7)),
  p 21 (.cvI .u64 (t 20)),
  p 4 (.mv (t 19)),
  p 5 (.mv (t 21))])
 (EC.ret)))
 (EC.skip))
 (s (o [p 23 (.mv (t 0)),
  p 24 (.mv (t 1)),
  p 25 (.pcall 158 [(t 23), (t 24)]),
  p 22 (.mv (t 25)),
  p 26 (.ext (t 22) 0),
  p 27 (.ext (t 22) 1),
  p 8 (.mv (t 26)),
  p 9 (.mv (t 27))])
 (s (o [p 28 (.mv (t 8)),
  p 29 (.mv (t 9)),
  p 4 (.mv (t 28)),
  p 5 (.mv (t 29))])
 (EC.ret)))))
 [.t 4, .t 5]
/- slices.Grow[[]byte,byte] -/
noncomputable def e156 : EFunc := EFunc.mk 27 false
 (s (o [p 4 (.mv (.c .nils))])
 (s (s (o [p 5 (.mv (t 1)),
  p 6 (.ibin .lss (t 5) (ii 0))])
 (EC.cond (t 6)
 (o [p 7 (.mkI 9 (.c (.str [99, 97, 110, 110, 111, 116, 32, 98, 101, 32, 110, 101, 103, 97, 116, 105, 118, 101]))),
  q (.bad)])
 (EC.skip)))
 (s (s (o [p 8 (.mv (t 1)),
  p 9 (.mv (t 0)),
  p 10 (.cap (t 9)),
  p 11 (.mv (t 0)),
  p 12 (.len (t 11)),
  p 13 (.ibin .sub (t 10) (t 12)),
  p 14 (.ibin .sub (t 8) (t 13)),
  p 1 (.mv (t 14))])
 (s (o [p 15 (.mv (t 1)),
  p 16 (.ibin .gtr (t 15) (ii 0))])
 (EC.cond (t 16)
 (o [p 17 (.mv (t 0)),
  p 18 (.mv (t 0)),
  p 19 (.cap (t 18)),
  p 20 (.slL 1 (t 17) none (some (t 19)) none),
  p 21 (.mv (t 1)),
  p 22 (.appZ 1 1 [(.int .u8 0)] (t 20) (t 21)),
  p 23 (.mv (t 0)),
  p 24 (.len (t 23)),
  p 25 (.slL 1 (t 22) none (some (t 24)) none),
  p 0 (.mv (t 25))])
 (EC.skip))))
 (s (o [p 26 (.mv (t 0)),
  p 4 (.mv (t 26))])
 (EC.ret)))))
 [.t 4]
/- math/bits.Mul32 -/
noncomputable def e157 : EFunc := EFunc.mk 17 true
 (s (o [p 4 (.mv (.c (.int .u32 0))),
  p 5 (.mv (.c (.int .u32 0)))])
 (s (o [p 7 (.mv (t 0)),
  p 8 (.cvI .u64 (t 7)),
  p 9 (.mv (t 1)),
  p 10 (.cvI .u64 (t 9)),
  p 11 (.ibin .mul (t 8) (t 10)),
  p 6 (.mv (t 11))])
 (s (o [p 12 (.mv (t 6)),
  p 13 (.ibin .shr (t 12) (.c (.int .u64 32))),
  p 14 (.cvI .u32 (t 13)),
  p 15 (.mv (t 6)),
  p 16 (.cvI .u32 (t 15)),
  p 4 (.mv (t 14)),
  p 5 (.mv (t 16))])
 (EC.ret))))
 [.t 4, .t 5]
/- math/bits.Mul64 -/
noncomputable def e158 : EFunc := EFunc.mk 51 true
 (s (o [p 4 (.mv (.c (.int .u64 0))),
  p 5 (.mv (.c (.int .u64 0)))])
 (s (o [p 14 (.mv (t 0)),
  p 15 (.ibin .and (t 14) (.c (.int .u64 4294967295))),
  p 6 (.mv (t 15))])
 (s (o [p 16 (.mv (t 0)),
  p 17 (.ibin .shr (t 16) (.c (.int .u64 32))),
  p 7 (.mv (t 17))])
 (s (o [p 18 (.mv (t 1)),
  p 19 (.ibin .and (t 18) (.c (.int .u64 4294967295))),
  p 8 (.mv (t 19))])
 (s (o [p 20 (.mv (t 1)),
  p 21 (.ibin .shr (t 20) (.c (.int .u64 32))),
  p 9 (.mv (t 21))])
 (s (o [p 22 (.mv (t 6)),
  p 23 (.mv (t 8)),
  p 24 (.ibin .mul (t 22) (t 23)),
  p 10 (.mv (t 24))])
 (s (o [p 25 (.mv (t 7)),
  p 26 (.mv (t 8)),
  p 27 (.ibin .mul (t 25) (t 26)),
  p 28 (.mv (t 10)),
  p 29 (.ibin .shr (t 28) (.c (.int .u64 32))),
  p 30 (.ibin .add (t 27) (t 29)),
  p 11 (.mv (t 30))])
 (s (o [p 31 (.mv (t 11)),
  p 32 (.ibin .and (t 31) (.c (.int .u64 4294967295))),
  p 12 (.mv (t 32))])
 (s (o [p 33 (.mv (t 11)),
  p 34 (.ibin .shr (t 33) (.c (.int .u64 32))),
  p 13 (.mv (t 34))])
 (s (o [p 35 (.mv (t 12)),
  p 36 (.mv (t 6)),
  p 37 (.mv (t 9)),
  p 38 (.ibin .mul (t 36) (t 37)),
  p 39 (.ibin .add (t 35) (t 38)),
  p 12 (.mv (t 39))])
 (s (o [p 40 (.mv (t 7)),
  p 41 (.mv (t 9)),
  p 42 (.ibin .mul (t 40) (t 41)),
  p 43 (.mv (t 13)),
  p 44 (.ibin .add (t 42) (t 43)),
  p 45 (.mv (t 12)),
  p 46 (.ibin .shr (t 45) (.c (.int .u64 32))),
  p 47 (.ibin .add (t 44) (t 46)),
  p 4 (.mv (t 47))])
 (s (o [p 48 (.mv (t 0)),
  p 49 (.mv (t 1)),
  p 50 (.ibin .mul (t 48) (t 49)),
  p 5 (.mv (t 50))])
 (EC.ret)))))))))))))
 [.t 4, .t 5]
/- gosem.cut.vars -/
noncomputable def e180 : EFunc := EFunc.mk 7 true
 (s (o [p 0 (.build [(.int .u8 0), (.int .u8 0), (.int .u8 0), (.int .u8 0), (.int .u8 0), (.int .u8 0), (.int .u8 0), (.int .u8 0), (.int .u8 0), (.int .u8 0), (.int .u8 0), (.int .u8 0), (.int .u8 0), (.int .u8 0), (.int .u8 0), (.int .u8 0), (.int .u8 0), (.int .u8 0), (.int .u8 0), (.int .u8 0), (.int .u8 0), (.int .u8 0), (.int .u8 0), (.int .u8 0), (.int .u8 0), (.int .u8 0), (.int .u8 0), (.int .u8 0), (.int .u8 0), (.int .u8 0), (.int .u8 0), (.int .u8 0)] [(0, 1, (.c (.int .u8 0))), (1, 1, (.c (.int .u8 1))), (2, 1, (.c (.int .u8 28))), (3, 1, (.c (.int .u8 2))), (4, 1, (.c (.int .u8 29))), (5, 1, (.c (.int .u8 14))), (6, 1, (.c (.int .u8 24))), (7, 1, (.c (.int .u8 3))), (8, 1, (.c (.int .u8 30))), (9, 1, (.c (.int .u8 22))), (10, 1, (.c (.int .u8 20))), (11, 1, (.c (.int .u8 15))), (12, 1, (.c (.int .u8 25))), (13, 1, (.c (.int .u8 17))), (14, 1, (.c (.int .u8 4))), (15, 1, (.c (.int .u8 8))), (16, 1, (.c (.int .u8 31))), (17, 1, (.c (.int .u8 27))), (18, 1, (.c (.int .u8 13))), (19, 1, (.c (.int .u8 23))), (20, 1, (.c (.int .u8 21))), (21, 1, (.c (.int .u8 19))), (22, 1, (.c (.int .u8 16))), (23, 1, (.c (.int .u8 7))), (24, 1, (.c (.int .u8 26))), (25, 1, (.c (.int .u8 12))), (26, 1, (.c (.int .u8 18))), (27, 1, (.c (.int .u8 6))), (28, 1, (.c (.int .u8 11))), (29, 1, (.c (.int .u8 5))), (30, 1, (.c (.int .u8 10))), (31, 1, (.c (.int .u8 9)))]),
  q (.st 32 (.c (.ptr 0 0)) (t 0))])
 (o [p 1 (.build [(.int .u8 0), (.int .u8 0)] [(0, 1, (.c (.int .u8 128))), (1, 1, (.c (.int .u8 191)))]),
  p 2 (.build [(.int .u8 0), (.int .u8 0)] [(0, 1, (.c (.int .u8 160))), (1, 1, (.c (.int .u8 191)))]),
  p 3 (.build [(.int .u8 0), (.int .u8 0)] [(0, 1, (.c (.int .u8 128))), (1, 1, (.c (.int .u8 159)))]),
  p 4 (.build [(.int .u8 0), (.int .u8 0)] [(0, 1, (.c (.int .u8 144))), (1, 1, (.c (.int .u8 191)))]),
  p 5 (.build [(.int .u8 0), (.int .u8 0)] [(0, 1, (.c (.int .u8 128))), (1, 1, (.c (.int .u8 143)))]),
  p 6 (.build [(.int .u8 0), (.int .u8 0), (.int .u8 0), (.int .u8 0), (.int .u8 0), (.int .u8 0), (.int .u8 0), (.int .u8 0), (.int .u8 0), (.int .u8 0), (.int .u8 0), (.int .u8 0), (.int .u8 0), (.int .u8 0), (.int .u8 0), (.int .u8 0), (.int .u8 0), (.int .u8 0), (.int .u8 0), (.int .u8 0), (.int .u8 0), (.int .u8 0), (.int .u8 0), (.int .u8 0), (.int .u8 0), (.int .u8 0), (.int .u8 0), (.int .u8 0), (.int .u8 0), (.int .u8 0), (.int .u8 0), (.int .u8 0)] [(0, 2, (t 1)), (2, 2, (t 2)), (4, 2, (t 3)), (6, 2, (t 4)), (8, 2, (t 5))]),
  q (.st 32 (.c (.ptr 2 0)) (t 6))]))
 []
end Go.Proofs.YtdalcnjdpfnjjaaGreatDoor.Co
