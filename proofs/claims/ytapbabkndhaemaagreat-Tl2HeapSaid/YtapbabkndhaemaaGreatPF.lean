/-
  THE FUNCTIONS of this seat in their plain form, and that each is the loaded one's.
-/
import Derived.Test.YtapbabkndhaemaaGreatPF1

set_option maxHeartbeats 32000000
set_option maxRecDepth 100000
namespace Go.Proofs
namespace YtapbabkndhaemaaGreat
open Go.Abs
def b176:AC:=
 (zS [zK 2 (.int .i64 0)]
 (.seq (zS [zM 3 0,zO 4 (.bin .geq (.t 3) (.k (.int .u64 4294967296)))]
 (.cond (.t 4) (zS [zM 5 0,zO 6 (.bin .shr (.t 5) (.k (.int .u64 32))),zM 0 6]
 (.reg [zK 2 (.int .i64 32)]))
 .skip))
 (.seq (zS [zM 7 0,zO 8 (.bin .geq (.t 7) (.k (.int .u64 65536)))]
 (.cond (.t 8) (zS [zM 9 0,zO 10 (.bin .shr (.t 9) (.k (.int .u64 16))),zM 0 10]
 (.reg [zM 11 2,zO 12 (.bin .add (.t 11) (.k (.int .i64 16))),zM 2 12]))
 .skip))
 (.seq (zS [zM 13 0,zO 14 (.bin .geq (.t 13) (.k (.int .u64 256)))]
 (.cond (.t 14) (zS [zM 15 0,zO 16 (.bin .shr (.t 15) (.k (.int .u64 8))),zM 0 16]
 (.reg [zM 17 2,zO 18 (.bin .add (.t 17) (.k (.int .i64 8))),zM 2 18]))
 .skip))
 (zS [zM 19 2,zM 20 0,zO 21 (.conv (.int .u8) (.t 20)),zO 22 (.indexS (.k (.string ⟨#[0,1,2,2,3,3,3,3,4,4,4,4,4,4,4,4,5,5,5,5,5,5,5,5,5,5,5,5,5,5,5,5,6,6,6,6,6,6,6,6,6,6,6,6,6,6,6,6,6,6,6,6,6,6,6,6,6,6,6,6,6,6,6,6,7,7,7,7,7,7,7,7,7,7,7,7,7,7,7,7,7,7,7,7,7,7,7,7,7,7,7,7,7,7,7,7,7,7,7,7,7,7,7,7,7,7,7,7,7,7,7,7,7,7,7,7,7,7,7,7,7,7,7,7,7,7,7,7,8,8,8,8,8,8,8,8,8,8,8,8,8,8,8,8,8,8,8,8,8,8,8,8,8,8,8,8,8,8,8,8,8,8,8,8,8,8,8,8,8,8,8,8,8,8,8,8,8,8,8,8,8,8,8,8,8,8,8,8,8,8,8,8,8,8,8,8,8,8,8,8,8,8,8,8,8,8,8,8,8,8,8,8,8,8,8,8,8,8,8,8,8,8,8,8,8,8,8,8,8,8,8,8,8,8,8,8,8,8,8,8,8,8,8,8,8,8,8,8,8,8,8,8,8,8,8,8]⟩)) (.t 21)),zO 23 (.conv (.int .i64) (.t 22)),zB 24 .add 19 23,zM 2 24]
 .ret)))))
def a176:AF:=⟨25,[.t 2],.code b176,none⟩
def b177:AC:=
 (.seq (zS [zL 9 1,zO 10 (.eq false .ptr (.t 9) (.k (.pointer none)))]
 (.cond (.t 10) .ret
 .skip))
 (zS [zL 11 1,zU 12 11,zF 13 1 12,zL 14 13,zE 15 14,zK 16 (.int .i64 0)]
 (.block 0 (.loop (zS [zB 17 .lss 16 15]
  (.seq (.cond (.t 17) .skip
  (.exit 0))
  (.seq (.block 1 (zS [zM 18 16,zI 19 1 14 16,zL 20 19,zM 4 18,zM 5 20]
  (zS [zM 22 5,zC 23 (.f 178) [.t 22],zM 21 23,zO 24 (.extract (.t 21) 0),zO 25 (.extract (.t 21) 1),zO 26 (.extract (.t 21) 2),zM 6 24,zM 7 25,zM 8 26]
  (zS [zM 27 6,zL 28 2,zB 29 .eql 27 28,zM 30 29,zV 31 6 30 true,zG 32 (.bin .geq (.t 31) (.k (.int .i64 0))) 30 true,zO 33 (.pick (.t 30) (.t 32) (.k (.bool false))),zM 34 33,zV 35 0 34 true,zV 36 4 34 true,⟨some 37,(.call (.t 35) [.t 36]),(some (34,true))⟩,zG 38 (.un .not (.t 37)) 34 true,zO 39 (.pick (.t 34) (.t 38) (.k (.bool false)))]
  (.cond (.t 39) .ret
  .skip)))))
  (.reg [zO 40 (.bin .add (.t 16) (.k (.int .i64 1))),zM 16 40]))))))))
def a177:AF:=⟨41,[],.code b177,none⟩
def b178:AC:=
 (zS [zK 2 (.int .i64 0),zK 3 (.int .u64 0),zK 4 (.int .i64 0)]
 (zS [zM 8 0,zC 9 (.f 149) [.t 8],zM 7 9,zO 10 (.extract (.t 7) 0),zO 11 (.extract (.t 7) 1),zO 5 (.alloc 209 [(.int .i64 0),(.int .u64 0)]),zT 2 5 10,zM 6 11]
 (.seq (zS [zM 12 6,zO 13 (.un .not (.t 12))]
 (.cond (.t 13) (zS [zK 2 (.int .i64 0),zK 3 (.int .u64 0),zK 4 (.int .i64 3)]
 .ret)
 .skip))
 (.seq (.dreg (zQ (zF 14 0 5) (zQ (zL 15 14) (zQ (zF 16 1 5) (zQ (zL 17 16) (.loud (zM 2 15) [zL 17 16] (.loud (zM 3 17) [] (.loud (zK 4 (.int .i64 0)) [] .nil))))))))
 .ret))))
def a178:AF:=⟨18,[.t 2,.t 3,.t 4],.code b178,none⟩
def b179:AC:=
 (zS [zK 4 (.bool false)]
 (zS [zM 11 0,zM 12 1,zI 13 4 11 12,zO 14 (.loadN 4 (.t 13)),zO 5 (.alloc 121 [(.int .u8 0),(.int .i64 0),(.int .i64 0),(.int .u64 0)]),zT 4 5 14]
 (.seq (zS [zF 15 1 5,zL 16 15,zO 17 (.bin .lss (.t 16) (.k (.int .i64 0))),zM 18 17,zG 19 (.faddr 1 (.t 5)) 18 false,zG 20 (.load (.t 19)) 18 false,zG 21 (.bin .geq (.t 20) (.k (.int .i64 64))) 18 false,zO 22 (.pick (.t 18) (.k (.bool true)) (.t 21))]
 (.cond (.t 22) (zS [zK 4 (.bool false)]
 .ret)
 .skip))
 (zS [zF 23 2 5,zL 24 23,zO 25 (.bin .eql (.t 24) (.k (.int .i64 0))),zM 26 25,zG 27 (.faddr 3 (.t 5)) 26 true,zG 28 (.load (.t 27)) 26 true,zG 29 (.bin .eql (.t 28) (.k (.int .u64 0))) 26 true,zO 30 (.pick (.t 26) (.t 29) (.k (.bool false))),zM 6 30]
 (zS [zM 31 0,zM 32 1,zF 33 1 5,zL 34 33,zC 35 (.f 119) [.t 31,.t 32,.t 34,(.k (.int .u8 1))],zM 7 35]
 (zS [zM 36 0,zM 37 1,zF 38 1 5,zL 39 38,zC 40 (.f 119) [.t 36,.t 37,.t 39,(.k (.int .u8 7))],zM 8 40]
 (zS [zM 41 0,zM 42 1,zF 43 1 5,zL 44 43,zC 45 (.f 119) [.t 41,.t 42,.t 44,(.k (.int .u8 8))],zM 46 45,zV 47 0 46 false,zV 48 1 46 false,zG 49 (.faddr 1 (.t 5)) 46 false,zG 50 (.load (.t 49)) 46 false,⟨some 51,(.call (.f 119) [.t 47,.t 48,.t 50,(.k (.int .u8 9))]),(some (46,false))⟩,zO 52 (.pick (.t 46) (.k (.bool true)) (.t 51)),zM 9 52]
 (.seq (zS [zF 53 0 5,zL 54 53,zO 55 (.bin .eql (.t 54) (.k (.int .u8 1)))]
 (.cond (.t 55) (zS [zM 56 6,zM 57 56,zV 58 7 57 true,zG 59 (.un .not (.t 58)) 57 true,zO 60 (.pick (.t 57) (.t 59) (.k (.bool false))),zM 4 60]
 .ret)
 .skip))
 (.seq (zS [zM 61 7,zO 62 (.un .not (.t 61)),zM 63 62,zV 64 9 63 false,zO 65 (.pick (.t 63) (.k (.bool true)) (.t 64))]
 (.cond (.t 65) (zS [zK 4 (.bool false)]
 .ret)
 .skip))
 (zS [zM 66 0,zM 67 1,zF 68 1 5,zL 69 68,zC 70 (.f 226) [.t 66,.t 67,.t 69],zM 10 70]
 (.seq (zS [zF 71 0 5,zL 72 71]
 (.block 0 (zS [zO 74 (.bin .eql (.t 72) (.k (.int .u8 8))),zM 73 74]
 (.cond (.t 73) (zS [zM 75 6,zM 76 75,zV 77 8 76 true,zO 78 (.pick (.t 76) (.t 77) (.k (.bool false))),zM 4 78]
 .ret)
 (zS [zO 80 (.bin .eql (.t 72) (.k (.int .u8 9))),zM 79 80]
 (.cond (.t 79) (zS [zM 81 6,zM 4 81]
 .ret)
 (zS [zO 83 (.bin .eql (.t 72) (.k (.int .u8 2))),zM 82 83]
 (.cond (.t 82) (zS [zM 84 8,zO 85 (.un .not (.t 84)),zM 86 85,zG 87 (.faddr 2 (.t 5)) 86 true,zG 88 (.load (.t 87)) 86 true,zG 89 (.bin .geq (.t 88) (.k (.int .i64 0))) 86 true,zO 90 (.pick (.t 86) (.t 89) (.k (.bool false))),zM 91 90,zG 92 (.faddr 2 (.t 5)) 91 true,zG 93 (.load (.t 92)) 91 true,zG 94 (.bin .lss (.t 93) (.k (.int .i64 12))) 91 true,zO 95 (.pick (.t 91) (.t 94) (.k (.bool false))),zM 96 95,zG 97 (.faddr 3 (.t 5)) 96 true,zG 98 (.load (.t 97)) 96 true,⟨some 99,(.call (.f 97) [.t 98]),(some (96,true))⟩,zO 100 (.pick (.t 96) (.t 99) (.k (.bool false))),zM 4 100]
 .ret)
 (zS [zO 102 (.bin .eql (.t 72) (.k (.int .u8 3))),zM 101 102]
 (.cond (.t 101) (zS [zM 103 8,zO 104 (.un .not (.t 103)),zM 105 104,zV 106 10 105 true,zG 107 (.loadN 4 (.t 5)) 105 true,⟨some 108,(.call (.f 227) [.t 106,.t 107]),(some (105,true))⟩,zG 109 (.bin .eql (.t 108) (.k (.int .i64 0))) 105 true,zO 110 (.pick (.t 105) (.t 109) (.k (.bool false))),zM 4 110]
 .ret)
 (.seq (zS [zO 112 (.bin .eql (.t 72) (.k (.int .u8 4))),zM 111 112]
 (.cond (.t 111) .skip
 (zS [zO 113 (.bin .eql (.t 72) (.k (.int .u8 5))),zM 111 113]
 (.cond (.t 111) .skip
 (.reg [zO 114 (.bin .eql (.t 72) (.k (.int .u8 6))),zM 111 114])))))
 (.cond (.t 111) (zS [zM 115 8,zO 116 (.un .not (.t 115)),zM 117 116,zV 118 6 117 true,zO 119 (.pick (.t 117) (.t 118) (.k (.bool false))),zM 120 119,zV 121 10 120 true,zG 122 (.loadN 4 (.t 5)) 120 true,⟨some 123,(.call (.f 227) [.t 121,.t 122]),(some (120,true))⟩,zG 124 (.bin .eql (.t 123) (.k (.int .i64 0))) 120 true,zO 125 (.pick (.t 120) (.t 124) (.k (.bool false))),zM 4 125]
 .ret)
 (zS [zO 127 (.bin .eql (.t 72) (.k (.int .u8 7))),zM 126 127]
 (.cond (.t 126) (zS [zM 128 8,zO 129 (.un .not (.t 128)),zM 130 129,zV 131 6 130 true,zO 132 (.pick (.t 130) (.t 131) (.k (.bool false))),zM 133 132,zV 134 10 133 true,⟨some 135,(.call (.f 185) [.t 134]),(some (133,true))⟩,zG 136 (.bin .eql (.t 135) (.k (.int .i64 0))) 133 true,zO 137 (.pick (.t 133) (.t 136) (.k (.bool false))),zM 4 137]
 .ret)
 .skip))))))))))))))
 (zS [zK 4 (.bool false)]
 .ret))))))))))))
def a179:AF:=⟨138,[.t 4],.code b179,none⟩
def b180:AC:=
 (zS [zK 4 (.slice none 0 0)]
 (zS [zK 5 (.slice none 0 0)]
 (.seq (zS [zK 6 (.int .i64 0)]
 (.block 0 (.loop (.seq (zS [zM 9 6,zM 10 0,zE 11 10,zB 12 .lss 9 11]
  (.cond (.t 12) .skip
  (.exit 0)))
  (.seq (.block 1 (.seq (zS [zM 15 0,zM 16 6,zI 17 4 15 16,zF 18 1 17,zL 19 18,zM 20 1,zB 21 .neq 19 20,zM 22 21,zV 23 0 22 false,zV 24 6 22 false,zG 25 (.iaddrS 4 (.t 23) (.t 24)) 22 false,zG 26 (.faddr 0 (.t 25)) 22 false,zG 27 (.load (.t 26)) 22 false,zG 28 (.bin .neq (.t 27) (.k (.int .u8 2))) 22 false,zO 29 (.pick (.t 22) (.k (.bool true)) (.t 28))]
  (.cond (.t 29) (.exit 1)
  .skip))
  (.seq (.dreg (zQ (zM 31 0) (zQ (zM 32 6) (zQ (zM 33 1) (zQ (zM 35 0) (zQ (zM 36 6) (zQ (zI 37 4 35 36) (zQ (zF 38 2 37) (zQ (zL 39 38) (.loud (zC 34 (.f 226) [.t 31,.t 32,.t 33]) [zL 39 38] (.loud (zC 40 (.f 187) [.t 34,.t 39]) [] (zQ (zM 30 40) (zQ (zO 41 (.extract (.t 30) 0)) (zQ (zO 42 (.extract (.t 30) 1)) (.loud (zM 7 41) [] (.loud (zM 8 42) [] .nil))))))))))))))))
  (zS [zM 43 8,zO 44 (.un .not (.t 43))]
  (.cond (.t 44) (.dreg (zQ (zM 45 5) (zQ (zM 46 0) (zQ (zM 47 6) (zQ (zI 48 4 46 47) (zQ (zF 49 2 48) (zQ (zL 50 49) (zQ (zM 51 0) (zQ (zM 52 6) (zQ (zI 53 4 51 52) (zQ (zF 54 3 53) (zQ (zL 55 54) (zQ (zO 56 (.build [(.int .i64 0),(.int .u64 0)] [(0,1,(.t 50)),(1,1,(.t 55))])) (.loud (zO 57 (.bslice 104 [(.int .i64 0),(.int .u64 0)] 1 [(0,2,(.t 56))])) [] (.loud (zO 58 (.append 104 2 16 (.t 45) (.t 57))) [] (.loud (zM 5 58) [] .nil))))))))))))))))
  .skip)))))
  (.reg [zM 13 6,zO 14 (.bin .add (.t 13) (.k (.int .i64 1))),zM 6 14]))))))
 (zS [zM 59 5,zM 4 59]
 .ret))))
def a180:AF:=⟨60,[.t 4],.code b180,none⟩
def b181:AC:=
 (zS [zK 4 (.slice none 0 0)]
 (zS [zM 5 0,zM 6 0,zE 7 6,zM 8 1,zC 9 (.f 226) [.t 5,.t 7,.t 8],zC 10 (.f 141) [.t 9],zM 4 10]
 .ret))
def a181:AF:=⟨11,[.t 4],.code b181,none⟩
def b182:AC:=
 (zS [zK 4 (.bool false)]
 (.seq (zS [zK 5 (.int .i64 0)]
 (.block 0 (.loop (.seq (zS [zM 8 5,zM 9 0,zE 10 9,zB 11 .lss 8 10]
  (.cond (.t 11) .skip
  (.exit 0)))
  (.seq (.block 1 (.seq (zS [zM 14 0,zM 15 5,zI 16 4 14 15,zF 17 1 16,zL 18 17,zM 19 1,zB 20 .neq 18 19,zM 21 20,zV 22 0 21 false,zV 23 5 21 false,zG 24 (.iaddrS 4 (.t 22) (.t 23)) 21 false,zG 25 (.faddr 0 (.t 24)) 21 false,zG 26 (.load (.t 25)) 21 false,zG 27 (.bin .neq (.t 26) (.k (.int .u8 2))) 21 false,zO 28 (.pick (.t 21) (.k (.bool true)) (.t 27))]
  (.cond (.t 28) (.exit 1)
  .skip))
  (.seq (.dreg (zQ (zM 30 0) (zQ (zM 31 5) (zQ (zM 32 1) (zQ (zM 34 0) (zQ (zM 35 5) (zQ (zI 36 4 34 35) (zQ (zF 37 2 36) (zQ (zL 38 37) (.loud (zC 33 (.f 226) [.t 30,.t 31,.t 32]) [zL 38 37] (.loud (zC 39 (.f 187) [.t 33,.t 38]) [] (zQ (zM 29 39) (zQ (zO 40 (.extract (.t 29) 0)) (zQ (zO 41 (.extract (.t 29) 1)) (.loud (zM 6 40) [] (.loud (zM 7 41) [] .nil))))))))))))))))
  (zS [zM 42 7,zM 43 42,zV 44 6 43 true,zV 45 0 43 true,zV 46 5 43 true,zG 47 (.iaddrS 4 (.t 45) (.t 46)) 43 true,zG 48 (.faddr 3 (.t 47)) 43 true,zG 49 (.load (.t 48)) 43 true,zG 50 (.bin .neq (.t 44) (.t 49)) 43 true,zO 51 (.pick (.t 43) (.t 50) (.k (.bool false)))]
  (.cond (.t 51) (zS [zK 4 (.bool false)]
  .ret)
  .skip)))))
  (.reg [zM 12 5,zO 13 (.bin .add (.t 12) (.k (.int .i64 1))),zM 5 13]))))))
 (zS [zK 4 (.bool true)]
 .ret)))
def a182:AF:=⟨52,[.t 4],.code b182,none⟩
def b183:AC:=
 (zS [zO 2 (.box 87 (.t 0)),zK 4 (.slice none 0 0)]
 (.seq (zS [zM 6 1]
 (.block 0 (.rfunc (.t 6) [7] (.reg [zO 5 (.alloc 100 [(.int .i64 0),(.int .u64 0),(.int .u8 0)]),zT 3 5 7])
  (.block 1 (.reg [zL 8 2,zO 9 (.loadN 3 (.t 5)),zO 10 (.bslice 100 [(.int .i64 0),(.int .u64 0),(.int .u8 0)] 1 [(0,3,(.t 9))]),zO 11 (.append 100 3 24 (.t 8) (.t 10)),zT 1 2 11])))))
 (zS [zL 12 2,zM 4 12]
 .ret)))
def a183:AF:=⟨13,[.t 4],.code b183,none⟩
def b184:AC:=
 (zS [zK 6 (.int .i64 20)]
 (zS [zM 10 6,zK 7 (.int .i64 0),zM 8 10]
 (.seq (.block 0 (.loop (.seq (zS [zM 11 8,zM 12 1,zB 13 .leq 11 12]
  (.cond (.t 13) .skip
  (.exit 0)))
  (.block 1 (zS [zM 14 0,zM 15 7,zM 16 8,zM 17 2,zC 18 (.f 228) [.t 14,.t 15,.t 16,.t 17]]
  (zS [zM 19 8,zM 7 19]
  (.reg [zM 20 8,zM 21 6,zB 22 .add 20 21,zM 8 22])))))))
 (zS [zM 23 0,zM 24 7,zM 25 1,zM 26 2,zC 27 (.f 228) [.t 23,.t 24,.t 25,.t 26]]
 (.block 2 (.loop (.seq (zS [zM 28 6,zM 29 1,zB 30 .lss 28 29]
  (.cond (.t 30) .skip
  (.exit 2)))
  (.block 3 (zS [zM 31 6,zO 32 (.bin .mul (.k (.int .i64 2)) (.t 31)),zK 7 (.int .i64 0),zM 8 32]
  (.seq (.block 4 (.loop (.seq (zS [zM 33 8,zM 34 1,zB 35 .leq 33 34]
   (.cond (.t 35) .skip
   (.exit 4)))
   (.block 5 (zS [zM 36 0,zM 37 7,zM 38 7,zM 39 6,zB 40 .add 38 39,zM 41 8,zM 42 2,zC 43 (.f 229) [.t 36,.t 37,.t 40,.t 41,.t 42]]
   (zS [zM 44 8,zM 7 44]
   (.reg [zM 45 8,zM 46 6,zO 47 (.bin .mul (.k (.int .i64 2)) (.t 46)),zB 48 .add 45 47,zM 8 48])))))))
  (.seq (zS [zM 49 7,zM 50 6,zB 51 .add 49 50,zM 9 51]
  (zS [zM 52 9,zM 53 1,zB 54 .lss 52 53]
  (.cond (.t 54) (.reg [zM 55 0,zM 56 7,zM 57 9,zM 58 1,zM 59 2,zC 60 (.f 229) [.t 55,.t 56,.t 57,.t 58,.t 59]])
  .skip)))
  (.reg [zM 61 6,zO 62 (.bin .mul (.t 61) (.k (.int .i64 2))),zM 6 62]))))))))))))
def a184:AF:=⟨63,[],.code b184,none⟩
def b185:AC:=
 (zS [zK 2 (.int .i64 0)]
 (.seq (zS [zM 3 0,zO 4 (.eq false .ptr (.t 3) (.k (.pointer none)))]
 (.cond (.t 4) (zS [zK 2 (.int .i64 0)]
 .ret)
 .skip))
 (zS [zM 5 0,zU 6 5,zF 7 0 6,zL 8 7,zE 9 8,zO 10 (.bin .sub (.t 9) (.k (.int .i64 1))),zM 2 10]
 .ret)))
def a185:AF:=⟨11,[.t 2],.code b185,none⟩
def b187:AC:=
 (zS [zK 4 (.int .u64 0),zK 5 (.bool false)]
 (.seq (zS [zM 7 0,zO 8 (.eq false .ptr (.t 7) (.k (.pointer none))),zM 9 8,zV 10 1 9 false,zG 11 (.bin .lss (.t 10) (.k (.int .i64 0))) 9 false,zO 12 (.pick (.t 9) (.k (.bool true)) (.t 11)),zM 13 12,zV 14 1 13 false,zG 15 (.bin .geq (.t 14) (.k (.int .i64 12))) 13 false,zO 16 (.pick (.t 13) (.k (.bool true)) (.t 15))]
 (.cond (.t 16) (zS [zK 4 (.int .u64 0),zK 5 (.bool false)]
 .ret)
 .skip))
 (.seq (zS [zM 17 0,zU 18 17,zF 19 0 18,zL 20 19,zE 21 20,zO 22 (.bin .sub (.t 21) (.k (.int .i64 1))),zM 6 22]
 (.block 0 (.loop (.seq (zS [zM 23 6,zO 24 (.bin .geq (.t 23) (.k (.int .i64 0)))]
  (.cond (.t 24) .skip
  (.exit 0)))
  (.seq (.block 1 (zS [zM 27 0,zU 28 27,zF 29 0 28,zL 30 29,zM 31 6,zM 32 1,zI 33 24 30 31,zF 34 0 33,zO 35 (.iaddrA 12 1 (.t 34) (.t 32)),zL 36 35]
  (.cond (.t 36) (zS [zM 37 0,zU 38 37,zF 39 0 38,zL 40 39,zM 41 6,zM 42 1,zI 43 24 40 41,zF 44 12 43,zO 45 (.iaddrA 12 1 (.t 44) (.t 42)),zL 46 45,zM 4 46,zK 5 (.bool true)]
  .ret)
  .skip)))
  (.reg [zM 25 6,zO 26 (.bin .sub (.t 25) (.k (.int .i64 1))),zM 6 26]))))))
 (zS [zK 4 (.int .u64 0),zK 5 (.bool false)]
 .ret))))
def a187:AF:=⟨47,[.t 4,.t 5],.code b187,none⟩
def b197:AC:=
 (zS [zK 2 (.int .i64 0)]
 (.seq (.block 0 (zS [zM 4 0,zO 5 (.eq false .ptr (.t 4) (.k (.pointer none))),zM 3 5]
 (.cond (.t 3) (zS [zK 2 (.int .i64 1)]
 .ret)
 (zS [zM 7 0,zC 8 (.f 185) [.t 7],zO 9 (.bin .geq (.t 8) (.k (.int .i64 4))),zM 6 9]
 (.cond (.t 6) (zS [zK 2 (.int .i64 4)]
 .ret)
 .skip)))))
 (zS [zM 10 0,zO 11 (.bslice 246 [] 0 []),zM 12 0,zU 13 12,zF 14 0 13,zL 15 14,zO 16 (.append 246 24 112 (.t 11) (.t 15)),zO 17 (.build [(.bool false),(.bool false),(.bool false),(.bool false),(.bool false),(.bool false),(.bool false),(.bool false),(.bool false),(.bool false),(.bool false),(.bool false),(.int .u64 0),(.int .u64 0),(.int .u64 0),(.int .u64 0),(.int .u64 0),(.int .u64 0),(.int .u64 0),(.int .u64 0),(.int .u64 0),(.int .u64 0),(.int .u64 0),(.int .u64 0)] []),zO 18 (.bslice 246 [(.bool false),(.bool false),(.bool false),(.bool false),(.bool false),(.bool false),(.bool false),(.bool false),(.bool false),(.bool false),(.bool false),(.bool false),(.int .u64 0),(.int .u64 0),(.int .u64 0),(.int .u64 0),(.int .u64 0),(.int .u64 0),(.int .u64 0),(.int .u64 0),(.int .u64 0),(.int .u64 0),(.int .u64 0),(.int .u64 0)] 1 [(0,24,(.t 17))]),zO 19 (.append 246 24 112 (.t 16) (.t 18)),zU 20 10,zF 21 0 20,zT 1 21 19]
 (zS [zK 2 (.int .i64 0)]
 .ret))))
def a197:AF:=⟨22,[.t 2],.code b197,none⟩
def b198:AC:=
 (zS [zK 2 (.int .i64 0)]
 (.seq (.block 0 (zS [zM 4 0,zO 5 (.eq false .ptr (.t 4) (.k (.pointer none))),zM 3 5]
 (.cond (.t 3) (zS [zK 2 (.int .i64 1)]
 .ret)
 (zS [zM 7 0,zC 8 (.f 185) [.t 7],zO 9 (.bin .eql (.t 8) (.k (.int .i64 0))),zM 6 9]
 (.cond (.t 6) (zS [zK 2 (.int .i64 8)]
 .ret)
 .skip)))))
 (.seq (.dreg (zQ (zM 10 0) (zQ (zM 12 0) (zQ (zU 13 12) (zQ (zF 14 0 13) (zQ (zL 15 14) (zQ (zM 16 0) (zQ (zU 17 16) (zQ (zF 18 0 17) (zQ (zL 19 18) (zQ (zE 20 19) (zQ (zO 21 (.bin .sub (.t 20) (.k (.int .i64 1)))) (zQ (zO 22 (.slice 24 (.t 15) none (some (.t 21)) none)) (.loud (zO 11 (.bslice 246 [] 0 [])) [zL 19 18,zL 15 14] (.loud (zO 23 (.append 246 24 112 (.t 11) (.t 22))) [] (zQ (zU 24 10) (zQ (zF 25 0 24) (.loud (zT 1 25 23) [] .nil))))))))))))))))))
 (zS [zK 2 (.int .i64 0)]
 .ret))))
def a198:AF:=⟨26,[.t 2],.code b198,none⟩
def b199:AC:=
 (zS [zK 2 (.int .i64 0)]
 (.seq (.block 0 (zS [zM 8 0,zO 9 (.eq false .ptr (.t 8) (.k (.pointer none))),zM 7 9]
 (.cond (.t 7) (zS [zK 2 (.int .i64 1)]
 .ret)
 (zS [zM 11 0,zC 12 (.f 185) [.t 11],zO 13 (.bin .eql (.t 12) (.k (.int .i64 0))),zM 10 13]
 (.cond (.t 10) (zS [zK 2 (.int .i64 8)]
 .ret)
 .skip)))))
 (zS [zM 14 0,zU 15 14,zF 16 0 15,zL 17 16,zE 18 17,zM 3 18]
 (.seq (.dreg (zQ (zM 19 0) (zQ (zU 20 19) (zQ (zF 21 0 20) (zQ (zL 22 21) (zQ (zM 23 3) (zQ (zO 24 (.bin .sub (.t 23) (.k (.int .i64 1)))) (zQ (zI 25 24 22 24) (zQ (zO 26 (.loadN 24 (.t 25))) (zQ (zM 27 0) (zQ (zU 28 27) (zQ (zF 29 0 28) (zQ (zL 30 29) (zQ (zM 31 3) (zQ (zO 32 (.bin .sub (.t 31) (.k (.int .i64 2)))) (zQ (zI 33 24 30 32) (zQ (zO 34 (.loadN 24 (.t 33))) (.both (.loud (zO 4 (.alloc 246 [(.bool false),(.bool false),(.bool false),(.bool false),(.bool false),(.bool false),(.bool false),(.bool false),(.bool false),(.bool false),(.bool false),(.bool false),(.int .u64 0),(.int .u64 0),(.int .u64 0),(.int .u64 0),(.int .u64 0),(.int .u64 0),(.int .u64 0),(.int .u64 0),(.int .u64 0),(.int .u64 0),(.int .u64 0),(.int .u64 0)])) [zO 34 (.loadN 24 (.t 33)),zL 30 29,zO 26 (.loadN 24 (.t 25)),zL 22 21] (.loud (zO 5 (.alloc 246 [(.bool false),(.bool false),(.bool false),(.bool false),(.bool false),(.bool false),(.bool false),(.bool false),(.bool false),(.bool false),(.bool false),(.bool false),(.int .u64 0),(.int .u64 0),(.int .u64 0),(.int .u64 0),(.int .u64 0),(.int .u64 0),(.int .u64 0),(.int .u64 0),(.int .u64 0),(.int .u64 0),(.int .u64 0),(.int .u64 0)])) [zO 34 (.loadN 24 (.t 33)),zL 30 29,zO 26 (.loadN 24 (.t 25)),zL 22 21] (.loud (zT 24 4 26) [zO 34 (.loadN 24 (.t 33)),zL 30 29] (.loud (zT 24 5 34) [] .nil))))
  (.loud (zO 5 (.alloc 246 [(.bool false),(.bool false),(.bool false),(.bool false),(.bool false),(.bool false),(.bool false),(.bool false),(.bool false),(.bool false),(.bool false),(.bool false),(.int .u64 0),(.int .u64 0),(.int .u64 0),(.int .u64 0),(.int .u64 0),(.int .u64 0),(.int .u64 0),(.int .u64 0),(.int .u64 0),(.int .u64 0),(.int .u64 0),(.int .u64 0)])) [zO 34 (.loadN 24 (.t 33)),zL 30 29,zO 26 (.loadN 24 (.t 25)),zL 22 21] (.loud (zO 4 (.alloc 246 [(.bool false),(.bool false),(.bool false),(.bool false),(.bool false),(.bool false),(.bool false),(.bool false),(.bool false),(.bool false),(.bool false),(.bool false),(.int .u64 0),(.int .u64 0),(.int .u64 0),(.int .u64 0),(.int .u64 0),(.int .u64 0),(.int .u64 0),(.int .u64 0),(.int .u64 0),(.int .u64 0),(.int .u64 0),(.int .u64 0)])) [zO 34 (.loadN 24 (.t 33)),zL 30 29,zO 26 (.loadN 24 (.t 25)),zL 22 21] (.loud (zT 24 4 26) [zO 34 (.loadN 24 (.t 33)),zL 30 29] (.loud (zT 24 5 34) [] .nil))))))))))))))))))))))
 (.seq (zS [zK 6 (.int .i64 0)]
 (.block 1 (.loop (.seq (zS [zM 35 6,zO 36 (.bin .lss (.t 35) (.k (.int .i64 12)))]
  (.cond (.t 36) .skip
  (.exit 1)))
  (.seq (.block 2 (zS [zM 39 6,zF 40 0 4,zO 41 (.iaddrA 12 1 (.t 40) (.t 39)),zL 42 41]
  (.cond (.t 42) (.dreg (zQ (zM 43 6) (zQ (zM 44 6) (zQ (zM 45 6) (zQ (zF 46 12 4) (zQ (zO 47 (.iaddrA 12 1 (.t 46) (.t 45))) (zQ (zL 48 47) (zQ (zF 49 0 5) (zQ (zO 50 (.iaddrA 12 1 (.t 49) (.t 43))) (zQ (zF 51 12 5) (.loud (zN (.store 1 (.t 50) (.k (.bool true)))) [zL 48 47] (zQ (zO 52 (.iaddrA 12 1 (.t 51) (.t 44))) (.loud (zT 1 52 48) [] .nil)))))))))))))
  .skip)))
  (.reg [zM 37 6,zO 38 (.bin .add (.t 37) (.k (.int .i64 1))),zM 6 38]))))))
 (zS [zM 53 0,zC 54 (.f 198) [.t 53]]
 (zS [zM 55 0,zM 56 3,zO 57 (.bin .sub (.t 56) (.k (.int .i64 2))),zO 58 (.loadN 24 (.t 5)),zC 59 (.f 235) [.t 55,.t 57,.t 58]]
 (zS [zK 2 (.int .i64 0)]
 .ret))))))))
def a199:AF:=⟨60,[.t 2],.code b199,none⟩
def b200:AC:=
 (zS [zK 6 (.int .i64 0)]
 (.seq (.block 0 (zS [zM 9 0,zO 10 (.eq false .ptr (.t 9) (.k (.pointer none))),zM 8 10]
 (.cond (.t 8) (zS [zK 6 (.int .i64 1)]
 .ret)
 (zS [zM 12 1,zO 13 (.bin .lss (.t 12) (.k (.int .i64 0))),zM 14 13,zV 15 1 14 false,zG 16 (.bin .geq (.t 15) (.k (.int .i64 12))) 14 false,zO 17 (.pick (.t 14) (.k (.bool true)) (.t 16)),zM 11 17]
 (.cond (.t 11) (zS [zK 6 (.int .i64 2)]
 .ret)
 (zS [zM 19 2,zC 20 (.f 97) [.t 19],zO 21 (.un .not (.t 20)),zM 18 21]
 (.cond (.t 18) (zS [zK 6 (.int .i64 3)]
 .ret)
 .skip)))))))
 (.seq (.dreg (zQ (zM 22 0) (zQ (zU 23 22) (zQ (zF 24 0 23) (zQ (zL 25 24) (zQ (zM 26 0) (zQ (zU 27 26) (zQ (zF 28 0 27) (zQ (zL 29 28) (zQ (zE 30 29) (zQ (zO 31 (.bin .sub (.t 30) (.k (.int .i64 1)))) (zQ (zI 32 24 25 31) (zQ (zO 33 (.loadN 24 (.t 32))) (.loud (zO 7 (.alloc 246 [(.bool false),(.bool false),(.bool false),(.bool false),(.bool false),(.bool false),(.bool false),(.bool false),(.bool false),(.bool false),(.bool false),(.bool false),(.int .u64 0),(.int .u64 0),(.int .u64 0),(.int .u64 0),(.int .u64 0),(.int .u64 0),(.int .u64 0),(.int .u64 0),(.int .u64 0),(.int .u64 0),(.int .u64 0),(.int .u64 0)])) [zO 33 (.loadN 24 (.t 32)),zL 29 28,zL 25 24] (.loud (zT 24 7 33) [] .nil)))))))))))))))
 (.seq (zS [zM 34 1,zF 35 0 7,zO 36 (.iaddrA 12 1 (.t 35) (.t 34)),zL 37 36,zO 38 (.un .not (.t 37)),zM 39 38,zV 40 0 39 true,⟨some 41,(.call (.f 236) [.t 40]),(some (39,true))⟩,zG 42 (.bin .geq (.t 41) (.k (.int .i64 16))) 39 true,zO 43 (.pick (.t 39) (.t 42) (.k (.bool false)))]
 (.cond (.t 43) (zS [zK 6 (.int .i64 4)]
 .ret)
 .skip))
 (zS [zM 44 1,zM 45 1,zM 46 2,zF 47 0 7,zO 48 (.iaddrA 12 1 (.t 47) (.t 44)),zN (.store 1 (.t 48) (.k (.bool true))),zF 49 12 7,zO 50 (.iaddrA 12 1 (.t 49) (.t 45)),zT 1 50 46]
 (.seq (.dreg (zQ (zM 51 0) (zQ (zM 52 0) (zQ (zU 53 52) (zQ (zF 54 0 53) (zQ (zL 55 54) (zQ (zE 56 55) (zQ (zO 57 (.bin .sub (.t 56) (.k (.int .i64 1)))) (zQ (zO 58 (.loadN 24 (.t 7))) (.loud (zC 59 (.f 235) [.t 51,.t 57,.t 58]) [] .nil))))))))))
 (zS [zK 6 (.int .i64 0)]
 .ret)))))))
def a200:AF:=⟨60,[.t 6],.code b200,none⟩
def b201:AC:=
 (zS [zK 4 (.int .i64 0)]
 (.seq (.block 0 (zS [zM 6 0,zO 7 (.eq false .ptr (.t 6) (.k (.pointer none))),zM 5 7]
 (.cond (.t 5) (zS [zK 4 (.int .i64 1)]
 .ret)
 (zS [zM 9 1,zO 10 (.bin .lss (.t 9) (.k (.int .i64 0))),zM 11 10,zV 12 1 11 false,zV 13 0 11 false,zG 14 (.nilchk (.t 13)) 11 false,zG 15 (.faddr 0 (.t 14)) 11 false,zG 16 (.load (.t 15)) 11 false,zG 17 (.lenS (.t 16)) 11 false,zG 18 (.bin .geq (.t 12) (.t 17)) 11 false,zO 19 (.pick (.t 11) (.k (.bool true)) (.t 18)),zM 8 19]
 (.cond (.t 8) (zS [zK 4 (.int .i64 2)]
 .ret)
 .skip)))))
 (zS [zK 4 (.int .i64 0)]
 .ret)))
def a201:AF:=⟨20,[.t 4],.code b201,none⟩
def b202:AC:=
 (zS [zK 4 (.int .i64 0),zK 5 (.bool false)]
 (.seq (zS [zM 9 0,zM 10 1,zC 11 (.f 201) [.t 9,.t 10],zO 12 (.bin .neq (.t 11) (.k (.int .i64 0)))]
 (.cond (.t 12) (zS [zK 4 (.int .i64 0),zK 5 (.bool false)]
 .ret)
 .skip))
 (zS [zM 14 0,zU 15 14,zF 16 0 15,zL 17 16,zM 18 1,zI 19 1 17 18,zL 20 19,zC 21 (.f 203) [.t 20],zM 13 21,zO 22 (.extract (.t 13) 0),zO 23 (.extract (.t 13) 1),zO 24 (.extract (.t 13) 2),zM 6 22,zM 7 23,zM 8 24]
 (.seq (zS [zM 25 6,zO 26 (.bin .lss (.t 25) (.k (.int .i64 0)))]
 (.cond (.t 26) (zS [zK 4 (.int .i64 0),zK 5 (.bool false)]
 .ret)
 .skip))
 (zS [zM 27 6,zM 4 27,zK 5 (.bool true)]
 .ret)))))
def a202:AF:=⟨28,[.t 4,.t 5],.code b202,none⟩
def b203:AC:=
 (zS [zK 2 (.int .i64 0),zK 3 (.int .u64 0),zK 4 (.int .i64 0)]
 (zS [zM 9 0,zO 10 (.bin .quo (.t 9) (.k (.int .u64 32))),zM 5 10]
 (.seq (zS [zM 11 5,zO 12 (.bin .gtr (.t 11) (.k (.int .u64 1099511627776)))]
 (.cond (.t 12) (zS [zK 2 (.int .i64 0),zK 3 (.int .u64 0),zK 4 (.int .i64 3)]
 .ret)
 .skip))
 (.seq (zS [zM 13 0,zO 14 (.bin .rem (.t 13) (.k (.int .u64 32))),zO 15 (.bin .eql (.t 14) (.k (.int .u64 0)))]
 (.cond (.t 15) (zS [zM 16 5,zK 2 (.int .i64 (-1)),zM 3 16,zK 4 (.int .i64 0)]
 .ret)
 .skip))
 (.seq (zS [zK 6 (.int .i64 0)]
 (.block 0 (.loop (.seq (zS [zM 17 6,zO 18 (.bin .lss (.t 17) (.k (.int .i64 4)))]
  (.cond (.t 18) .skip
  (.exit 0)))
  (.seq (.block 1 (zS [zM 22 6,zM 23 5,zC 24 (.f 237) [.t 22,.t 23],zM 21 24,zO 25 (.extract (.t 21) 0),zO 26 (.extract (.t 21) 1),zM 7 25,zM 8 26]
  (zS [zM 27 7,zM 28 0,zB 29 .eql 27 28]
  (.cond (.t 29) (zS [zM 30 6,zM 31 5,zM 2 30,zM 3 31,zK 4 (.int .i64 0)]
  .ret)
  .skip))))
  (.reg [zM 19 6,zO 20 (.bin .add (.t 19) (.k (.int .i64 1))),zM 6 20]))))))
 (zS [zK 2 (.int .i64 0),zK 3 (.int .u64 0),zK 4 (.int .i64 3)]
 .ret))))))
def a203:AF:=⟨32,[.t 2,.t 3,.t 4],.code b203,none⟩
def b204:AC:=
 (zS [zO 2 (.alloc 250 [(.bool false),(.bool false),(.bool false),(.bool false),(.bool false)])]
 (zS [zO 3 (.alloc 250 [(.bool false),(.bool false),(.bool false),(.bool false),(.bool false)])]
 (.seq (zS [zK 5 (.int .i64 0)]
 (.block 0 (.loop (zS [zO 6 (.bin .lss (.t 5) (.k (.int .i64 5)))]
  (.seq (.cond (.t 6) .skip
  (.exit 0))
  (.seq (.block 1 (zS [zM 7 5,zM 4 7]
  (.reg [zM 8 4,zM 9 0,zM 10 4,zB 11 .shr 9 10,zO 12 (.bin .and (.t 11) (.k (.int .u64 1))),zO 13 (.bin .eql (.t 12) (.k (.int .u64 1))),zO 14 (.iaddrA 5 1 (.t 3) (.t 8)),zT 1 14 13])))
  (.reg [zO 15 (.bin .add (.t 5) (.k (.int .i64 1))),zM 5 15])))))))
 (zS [zO 16 (.loadN 5 (.t 3)),zT 5 2 16]
 .ret))))
def a204:AF:=⟨17,[(.c 2 true 5)],.code b204,none⟩
def b205:AC:=
 (zS [zO 1 (.box 209 (.t 0)),zK 2 (.bool false)]
 (zS [zF 3 1 1,zL 4 3,zO 5 (.bin .leq (.t 4) (.k (.int .u64 1099511627776))),zM 6 5,zG 7 (.faddr 0 (.t 1)) 6 true,zG 8 (.load (.t 7)) 6 true,zG 9 (.bin .eql (.t 8) (.k (.int .i64 (-1)))) 6 true,zV 10 9 6 true,zG 11 (.faddr 0 (.t 1)) 10 false,zG 12 (.load (.t 11)) 10 false,⟨some 13,(.call (.f 238) [.t 12]),(some (10,false))⟩,zG 14 (.pick (.t 10) (.k (.bool true)) (.t 13)) 6 true,zO 15 (.pick (.t 6) (.t 14) (.k (.bool false))),zM 2 15]
 .ret))
def a205:AF:=⟨16,[.t 2],.code b205,none⟩
def b206:AC:=
 (zS [zK 4 (.int .i64 0),zK 5 (.bool false)]
 (.seq (zS [zM 9 0,zM 10 1,zC 11 (.f 148) [.t 9,.t 10],zO 12 (.bin .neq (.t 11) (.k (.int .i64 0)))]
 (.cond (.t 12) (zS [zK 4 (.int .i64 0),zK 5 (.bool false)]
 .ret)
 .skip))
 (zS [zM 14 0,zU 15 14,zF 16 1 15,zL 17 16,zM 18 1,zI 19 1 17 18,zL 20 19,zC 21 (.f 178) [.t 20],zM 13 21,zO 22 (.extract (.t 13) 0),zO 23 (.extract (.t 13) 1),zO 24 (.extract (.t 13) 2),zM 6 22,zM 7 23,zM 8 24]
 (zS [zM 25 6,zO 26 (.max (.t 25) (.k (.int .i64 0))),zM 27 6,zO 28 (.bin .geq (.t 27) (.k (.int .i64 0))),zM 4 26,zM 5 28]
 .ret))))
def a206:AF:=⟨29,[.t 4,.t 5],.code b206,none⟩
def b207:AC:=
 (zS [zK 4 (.slice none 0 0)]
 (zS [zK 5 (.slice none 0 0)]
 (.seq (zS [zM 8 1,zU 9 8,zF 10 1 9,zL 11 10,zC 12 (.f 55) [.t 11],zE 13 12,zK 14 (.int .i64 0)]
 (.block 0 (.loop (zS [zB 15 .lss 14 13]
  (.seq (.cond (.t 15) .skip
  (.exit 0))
  (.seq (.block 1 (zS [zI 16 2 12 14,zO 17 (.loadN 2 (.t 16)),zO 7 (.alloc 104 [(.int .i64 0),(.int .u64 0)]),zT 2 7 17]
  (.reg [zM 18 5,zF 19 0 7,zL 20 19,zO 21 (.bslice 3 [(.int .i64 0)] 1 [(0,1,(.t 20))]),zO 22 (.append 3 1 8 (.t 18) (.t 21)),zM 5 22])))
  (.reg [zO 23 (.bin .add (.t 14) (.k (.int .i64 1))),zM 14 23])))))))
 (zS [zM 24 0,zU 25 24,zF 26 0 25,zL 27 26,zM 28 5,zC 29 (.f 239) [.t 27,.t 28],zM 4 29]
 .ret))))
def a207:AF:=⟨30,[.t 4],.code b207,none⟩
def b208:AC:=
 (zS [zK 4 (.bool false)]
 (zS [zM 5 0,zM 6 1,zC 7 (.f 240) [.t 5,.t 6],zO 8 (.bin .geq (.t 7) (.k (.int .i64 0))),zM 4 8]
 .ret))
def a208:AF:=⟨9,[.t 4],.code b208,none⟩
def b209:AC:=
 (zS [zO 4 (.box 3 (.t 1)),zK 6 (.int .i64 0)]
 (zS [zM 7 0,zM 8 2,zO 9 (.mkfunc 241 [] [.t 4]),zC 10 (.f 211) [.t 7,.t 8,.t 9],zM 6 10]
 .ret))
def a209:AF:=⟨11,[.t 6],.code b209,none⟩
def b210:AC:=
 (zS [zK 2 (.int .u64 0),zK 3 (.int .i64 0)]
 (.seq (zS [zM 4 0,zO 5 (.eq false .ptr (.t 4) (.k (.pointer none)))]
 (.cond (.t 5) (zS [zK 2 (.int .u64 0),zK 3 (.int .i64 1)]
 .ret)
 .skip))
 (zS [zM 6 0,zU 7 6,zF 8 0 7,zC 9 (.f 243) [.t 8],zO 10 (.extract (.t 9) 0),zO 11 (.extract (.t 9) 1),zM 2 10,zM 3 11]
 .ret)))
def a210:AF:=⟨12,[.t 2,.t 3],.code b210,none⟩
def b211:AC:=
 (zS [zK 6 (.int .i64 0)]
 (.seq (zS [zM 10 0,zM 11 1,zC 12 (.f 148) [.t 10,.t 11],zM 7 12]
 (zS [zM 13 7,zO 14 (.bin .neq (.t 13) (.k (.int .i64 0)))]
 (.cond (.t 14) (zS [zM 15 7,zM 6 15]
 .ret)
 .skip)))
 (zS [zM 17 2,zM 18 0,zU 19 18,zF 20 1 19,zL 21 20,zM 22 1,zI 23 1 21 22,zL 24 23,zC 25 (.t 17) [.t 24],zM 16 25,zO 26 (.extract (.t 16) 0),zO 27 (.extract (.t 16) 1),zM 8 26,zM 9 27]
 (.seq (zS [zM 28 9,zO 29 (.bin .eql (.t 28) (.k (.int .i64 0)))]
 (.cond (.t 29) (.reg [zM 30 0,zU 31 30,zF 32 1 31,zL 33 32,zM 34 1,zM 35 8,zI 36 1 33 34,zT 1 36 35])
 .skip))
 (zS [zM 37 9,zM 6 37]
 .ret)))))
def a211:AF:=⟨38,[.t 6],.code b211,none⟩
def b212:AC:=
 (zS [zK 5 (.int .u64 0),zK 6 (.int .i64 0)]
 (.seq (.seq (.dreg (zQ (zL 7 1) (zQ (zL 8 2) (zQ (zU 9 8) (zQ (zF 10 0 9) (zQ (zF 11 0 10) (zQ (zL 12 11) (zQ (zB 13 .gtr 7 12) .nil))))))))
 (.cond (.t 13) (zS [zK 5 (.int .u64 0),zK 6 (.int .i64 2)]
 .ret)
 .skip))
 (zS [zM 14 0,zL 15 3,zL 16 1,zC 17 (.f 213) [.t 14,.t 15,.t 16],zO 18 (.extract (.t 17) 0),zO 19 (.extract (.t 17) 1),zM 5 18,zM 6 19]
 .ret)))
def a212:AF:=⟨20,[.t 5,.t 6],.code b212,none⟩
def b213:AC:=
 (zS [zK 6 (.int .u64 0),zK 7 (.int .i64 0)]
 (zS [zM 11 0,zM 12 1,zC 13 (.f 244) [.t 11,.t 12],zM 10 13,zO 14 (.extract (.t 10) 0),zO 15 (.extract (.t 10) 1),zO 8 (.alloc 209 [(.int .i64 0),(.int .u64 0)]),zT 2 8 14,zM 9 15]
 (.seq (.block 0 (zS [zM 17 9,zO 18 (.bin .neq (.t 17) (.k (.int .i64 0))),zM 16 18]
 (.cond (.t 16) (zS [zM 19 9,zK 6 (.int .u64 0),zM 7 19]
 .ret)
 (zS [zM 21 2,zO 22 (.bin .gtr (.t 21) (.k (.int .u64 1099511627776))),zM 20 22]
 (.cond (.t 20) (zS [zK 6 (.int .u64 0),zK 7 (.int .i64 2)]
 .ret)
 (zS [zF 24 0 8,zL 25 24,zM 26 1,zB 27 .neq 25 26,zM 28 27,zV 29 2 28 false,zG 30 (.faddr 1 (.t 8)) 28 false,zG 31 (.load (.t 30)) 28 false,zG 32 (.bin .lss (.t 29) (.t 31)) 28 false,zO 33 (.pick (.t 28) (.k (.bool true)) (.t 32)),zM 23 33]
 (.cond (.t 23) (zS [zK 6 (.int .u64 0),zK 7 (.int .i64 8)]
 .ret)
 .skip)))))))
 (zS [zM 34 2,zC 35 (.f 245) [.t 34],zO 36 (.extract (.t 35) 0),zO 37 (.extract (.t 35) 1),zM 6 36,zM 7 37]
 .ret))))
def a213:AF:=⟨38,[.t 6,.t 7],.code b213,none⟩
def b214:AC:=
 (zS [zK 2 (.slice none 0 0),zK 3 (.int .i64 0)]
 (.seq (.block 0 (zS [zM 6 0,zO 7 (.eq false .ptr (.t 6) (.k (.pointer none))),zM 5 7]
 (.cond (.t 5) (zS [zK 2 (.slice none 0 0),zK 3 (.int .i64 1)]
 .ret)
 (zS [zM 9 0,zU 10 9,zF 11 1 10,zL 12 11,zO 13 (.bin .eql (.t 12) (.k (.int .i64 0))),zM 8 13]
 (.cond (.t 8) (zS [zK 2 (.slice none 0 0),zK 3 (.int .i64 8)]
 .ret)
 .skip)))))
 (zS [zM 14 0,zU 15 14,zF 16 0 15,zL 17 16,zU 18 17,zF 19 0 18,zL 20 19,zM 4 20]
 (zS [zM 21 0,zM 22 0,zU 23 22,zF 24 0 23,zL 25 24,zU 26 25,zF 27 1 26,zL 28 27,zU 29 21,zF 30 0 29,zT 1 30 28]
 (zS [zM 31 0,zU 32 31,zF 33 1 32,zL 34 33,zO 35 (.bin .sub (.t 34) (.k (.int .i64 1))),zU 36 31,zF 37 1 36,zT 1 37 35]
 (zS [zM 38 4,zM 2 38,zK 3 (.int .i64 0)]
 .ret))))))
def a214:AF:=⟨39,[.t 2,.t 3],.code b214,none⟩
def b215:AC:=
 (zS [zO 3 (.box 104 (.t 1)),zK 4 (.slice none 0 0)]
 (zS [zM 7 0,zC 8 (.f 246) [.t 7],zM 5 8]
 (.seq (zS [zM 9 5,zE 10 9,zK 11 (.int .i64 0)]
 (.block 0 (.loop (zS [zB 12 .lss 11 10]
  (.seq (.cond (.t 12) .skip
  (.exit 0))
  (.seq (.block 1 (zS [zM 13 11,zM 6 13]
  (.seq (.dreg (zQ (zM 14 5) (zQ (zM 15 6) (zQ (zI 16 2 14 15) (zQ (zF 17 0 16) (zQ (zL 18 17) (zQ (zF 19 0 3) (zQ (zL 20 19) (zQ (zB 21 .eql 18 20) .nil)))))))))
  (.cond (.t 21) (zS [zM 22 5,zM 23 6,zF 24 1 3,zL 25 24,zI 26 2 22 23,zF 27 1 26,zT 1 27 25]
  (zS [zM 28 5,zM 4 28]
  .ret))
  .skip))))
  (.reg [zO 29 (.bin .add (.t 11) (.k (.int .i64 1))),zM 11 29])))))))
 (zS [zM 30 5,zO 31 (.loadN 2 (.t 3)),zO 32 (.bslice 104 [(.int .i64 0),(.int .u64 0)] 1 [(0,2,(.t 31))]),zO 33 (.append 104 2 16 (.t 30) (.t 32)),zM 4 33]
 .ret))))
def a215:AF:=⟨34,[.t 4],.code b215,none⟩
def b216:AC:=
 (zS [zK 2 (.int .i64 0)]
 (.seq (zS [zM 5 0,zO 6 (.eq false .ptr (.t 5) (.k (.pointer none)))]
 (.cond (.t 6) (zS [zK 2 (.int .i64 0)]
 .ret)
 .skip))
 (zS [zO 3 (.alloc 3 [(.int .i64 0)]),zN (.store 1 (.t 3) (.k (.int .i64 0)))]
 (.seq (zS [zM 7 0,zU 8 7,zF 9 0 8,zL 10 9,zC 11 (.f 163) [.t 10]]
 (.block 0 (.rfunc (.t 11) [12] (.reg [zM 4 12])
  (.block 1 (.reg [zL 13 3,zM 14 4,zE 15 14,zB 16 .add 13 15,zT 1 3 16])))))
 (zS [zL 17 3,zM 2 17]
 .ret)))))
def a216:AF:=⟨18,[.t 2],.code b216,none⟩
def b217:AC:=
 (.block 0 (.loop (.seq (zS [zL 3 1,zO 4 (.eq true .ptr (.t 3) (.k (.pointer none)))]
  (.cond (.t 4) .skip
  (.exit 0)))
  (.seq (.block 1 (zS [zM 9 0,zL 10 1,zU 11 10,zF 12 0 11,zL 13 12,zC 14 (.t 9) [.t 13],zO 15 (.un .not (.t 14))]
  (.cond (.t 15) .ret
  .skip)))
  (.reg [zL 5 1,zU 6 5,zF 7 1 6,zL 8 7,zT 1 1 8])))))
def a217:AF:=⟨16,[],.code b217,none⟩
def b218:AC:=
 (zS [zK 3 (.int .u64 0),zK 4 (.int .i64 0)]
 (zS [zM 5 0,zL 6 1,zC 7 (.f 219) [.t 5,.t 6],zO 8 (.extract (.t 7) 0),zO 9 (.extract (.t 7) 1),zM 3 8,zM 4 9]
 .ret))
def a218:AF:=⟨10,[.t 3,.t 4],.code b218,none⟩
def b219:AC:=
 (zS [zK 4 (.int .u64 0),zK 5 (.int .i64 0)]
 (zS [zM 9 0,zM 10 1,zC 11 (.f 244) [.t 9,.t 10],zM 8 11,zO 12 (.extract (.t 8) 0),zO 13 (.extract (.t 8) 1),zO 6 (.alloc 209 [(.int .i64 0),(.int .u64 0)]),zT 2 6 12,zM 7 13]
 (.seq (.block 0 (zS [zM 15 7,zO 16 (.bin .neq (.t 15) (.k (.int .i64 0))),zM 14 16]
 (.cond (.t 14) (zS [zM 17 7,zK 4 (.int .u64 0),zM 5 17]
 .ret)
 (zS [zF 19 0 6,zL 20 19,zM 21 1,zB 22 .neq 20 21,zM 18 22]
 (.cond (.t 18) (zS [zK 4 (.int .u64 0),zK 5 (.int .i64 8)]
 .ret)
 .skip)))))
 (zS [zF 23 1 6,zL 24 23,zC 25 (.f 245) [.t 24],zO 26 (.extract (.t 25) 0),zO 27 (.extract (.t 25) 1),zM 4 26,zM 5 27]
 .ret))))
def a219:AF:=⟨28,[.t 4,.t 5],.code b219,none⟩
def b222:AC:=
 (zS [zK 2 (.int .u64 0)]
 (.seq (.dreg (zQ (zM 3 0) (zQ (zU 4 3) (zQ (zL 5 4) (zQ (zM 6 0) (zQ (zU 7 6) (zQ (zL 8 7) (zQ (zO 9 (.bin .shl (.t 8) (.k (.int .u64 13)))) (zQ (zB 10 .xor 5 9) (zQ (zU 11 3) (.loud (zT 1 11 10) [] .nil)))))))))))
 (.seq (.dreg (zQ (zM 12 0) (zQ (zU 13 12) (zQ (zL 14 13) (zQ (zM 15 0) (zQ (zU 16 15) (zQ (zL 17 16) (zQ (zO 18 (.bin .shr (.t 17) (.k (.int .u64 7)))) (zQ (zB 19 .xor 14 18) (zQ (zU 20 12) (.loud (zT 1 20 19) [] .nil)))))))))))
 (.seq (.dreg (zQ (zM 21 0) (zQ (zU 22 21) (zQ (zL 23 22) (zQ (zM 24 0) (zQ (zU 25 24) (zQ (zL 26 25) (zQ (zO 27 (.bin .shl (.t 26) (.k (.int .u64 17)))) (zQ (zB 28 .xor 23 27) (zQ (zU 29 21) (.loud (zT 1 29 28) [] .nil)))))))))))
 (zS [zM 30 0,zU 31 30,zL 32 31,zM 2 32]
 .ret)))))
def a222:AF:=⟨33,[.t 2],.code b222,none⟩
def b226:AC:=
 (zS [zK 6 (.pointer none)]
 (zS [zC 9 (.f 132) [],zM 7 9]
 (.seq (zS [zK 8 (.int .i64 0)]
 (.block 0 (.loop (.seq (zS [zM 10 8,zM 11 1,zB 12 .lss 10 11]
  (.cond (.t 12) .skip
  (.exit 0)))
  (.seq (.block 1 (zS [zM 15 0,zM 16 8,zI 17 4 15 16,zF 18 1 17,zL 19 18,zM 20 2,zB 21 .eql 19 20]
  (.cond (.t 21) (.reg [zM 22 7,zM 23 0,zM 24 8,zI 25 4 23 24,zO 26 (.loadN 4 (.t 25)),zC 27 (.f 227) [.t 22,.t 26]])
  .skip)))
  (.reg [zM 13 8,zO 14 (.bin .add (.t 13) (.k (.int .i64 1))),zM 8 14]))))))
 (zS [zM 28 7,zM 6 28]
 .ret))))
def a226:AF:=⟨29,[.t 6],.code b226,none⟩
def b227:AC:=
 (zS [zO 3 (.box 121 (.t 1)),zK 4 (.int .i64 0)]
 (.seq (zS [zF 5 0 3,zL 6 5]
 (.block 0 (zS [zO 8 (.bin .eql (.t 6) (.k (.int .u8 3))),zM 7 8]
 (.cond (.t 7) (zS [zM 9 0,zF 10 2 3,zL 11 10,zF 12 3 3,zL 13 12,zC 14 (.f 200) [.t 9,.t 11,.t 13],zM 4 14]
 .ret)
 (zS [zO 16 (.bin .eql (.t 6) (.k (.int .u8 4))),zM 15 16]
 (.cond (.t 15) (zS [zM 17 0,zC 18 (.f 197) [.t 17],zM 4 18]
 .ret)
 (zS [zO 20 (.bin .eql (.t 6) (.k (.int .u8 5))),zM 19 20]
 (.cond (.t 19) (zS [zM 21 0,zC 22 (.f 198) [.t 21],zM 4 22]
 .ret)
 (zS [zO 24 (.bin .eql (.t 6) (.k (.int .u8 6))),zM 23 24]
 (.cond (.t 23) (zS [zM 25 0,zC 26 (.f 199) [.t 25],zM 4 26]
 .ret)
 .skip))))))))))
 (zS [zK 4 (.int .i64 0)]
 .ret)))
def a227:AF:=⟨27,[.t 4],.code b227,none⟩
def b228:AC:=
 (zS [zM 10 1,zO 11 (.bin .add (.t 10) (.k (.int .i64 1))),zM 8 11]
 (.block 0 (.loop (.seq (zS [zM 12 8,zM 13 2,zB 14 .lss 12 13]
  (.cond (.t 14) .skip
  (.exit 0)))
  (.seq (.block 1 (zS [zM 17 8,zM 9 17]
  (.block 2 (.loop (.seq (.seq (.dreg (zQ (zM 18 9) (zQ (zM 19 1) (zQ (zB 20 .gtr 18 19) (zQ (zM 21 20) (zQ (zV 22 3 21 true) (zQ (zV 23 0 21 true) (zQ (zV 24 9 21 true) (zQ (zG 25 (.iaddrS 3 (.t 23) (.t 24)) 21 true) (zQ (zG 26 (.loadN 3 (.t 25)) 21 true) (zQ (zV 27 0 21 true) (zQ (zV 28 9 21 true) (zQ (zG 29 (.bin .sub (.t 28) (.k (.int .i64 1))) 21 true) (zQ (zG 30 (.iaddrS 3 (.t 27) (.t 29)) 21 true) (zQ (zG 31 (.loadN 3 (.t 30)) 21 true) (.loud ⟨some 32,(.call (.t 22) [.t 26,.t 31]),(some (21,true))⟩ [] (zQ (zG 33 (.bin .lss (.t 32) (.k (.int .i64 0))) 21 true) (zQ (zO 34 (.pick (.t 21) (.t 33) (.k (.bool false)))) .nil))))))))))))))))))
   (.cond (.t 34) .skip
   (.exit 2)))
   (.seq (.block 3 (.dreg (zQ (zM 37 0) (zQ (zM 38 9) (zQ (zM 39 0) (zQ (zM 40 9) (zQ (zO 41 (.bin .sub (.t 40) (.k (.int .i64 1)))) (zQ (zM 42 0) (zQ (zM 43 9) (zQ (zO 44 (.bin .sub (.t 43) (.k (.int .i64 1)))) (zQ (zI 45 3 42 44) (zQ (zO 46 (.loadN 3 (.t 45))) (zQ (zM 47 0) (zQ (zM 48 9) (zQ (zI 49 3 47 48) (zQ (zO 50 (.loadN 3 (.t 49))) (zQ (zI 51 3 37 38) (.loud (zT 3 51 46) [] (zQ (zI 52 3 39 41) (.loud (zT 3 52 50) [] .nil))))))))))))))))))))
   (.reg [zM 35 9,zO 36 (.bin .sub (.t 35) (.k (.int .i64 1))),zM 9 36])))))))
  (.reg [zM 15 8,zO 16 (.bin .add (.t 15) (.k (.int .i64 1))),zM 8 16]))))))
def a228:AF:=⟨53,[],.code b228,none⟩
def b229:AC:=
 (.seq (zS [zM 25 2,zM 26 1,zB 27 .sub 25 26,zO 28 (.bin .eql (.t 27) (.k (.int .i64 1)))]
 (.cond (.t 28) (zS [zM 29 2,zM 10 29]
 (zS [zM 30 3,zM 11 30]
 (.seq (.block 0 (.loop (.seq (zS [zM 31 10,zM 32 11,zB 33 .lss 31 32]
  (.cond (.t 33) .skip
  (.exit 0)))
  (.block 1 (zS [zM 34 10,zM 35 11,zB 36 .add 34 35,zO 37 (.conv (.int .u64) (.t 36)),zO 38 (.bin .shr (.t 37) (.k (.int .u64 1))),zO 39 (.conv (.int .i64) (.t 38)),zM 12 39]
  (.seq (.dreg (zQ (zM 40 4) (zQ (zM 41 0) (zQ (zM 42 12) (zQ (zI 43 3 41 42) (zQ (zO 44 (.loadN 3 (.t 43))) (zQ (zM 45 0) (zQ (zM 46 1) (zQ (zI 47 3 45 46) (zQ (zO 48 (.loadN 3 (.t 47))) (.loud (zC 49 (.t 40) [.t 44,.t 48]) [] (zQ (zO 50 (.bin .lss (.t 49) (.k (.int .i64 0)))) .nil))))))))))))
  (.cond (.t 50) (.reg [zM 51 12,zO 52 (.bin .add (.t 51) (.k (.int .i64 1))),zM 10 52])
  (.reg [zM 53 12,zM 11 53]))))))))
 (.seq (zS [zM 54 1,zM 13 54]
 (.block 2 (.loop (.seq (zS [zM 55 13,zM 56 10,zO 57 (.bin .sub (.t 56) (.k (.int .i64 1))),zB 58 .lss 55 57]
  (.cond (.t 58) .skip
  (.exit 2)))
  (.seq (.block 3 (.dreg (zQ (zM 61 0) (zQ (zM 62 13) (zQ (zM 63 0) (zQ (zM 64 13) (zQ (zO 65 (.bin .add (.t 64) (.k (.int .i64 1)))) (zQ (zM 66 0) (zQ (zM 67 13) (zQ (zO 68 (.bin .add (.t 67) (.k (.int .i64 1)))) (zQ (zI 69 3 66 68) (zQ (zO 70 (.loadN 3 (.t 69))) (zQ (zM 71 0) (zQ (zM 72 13) (zQ (zI 73 3 71 72) (zQ (zO 74 (.loadN 3 (.t 73))) (zQ (zI 75 3 61 62) (.loud (zT 3 75 70) [] (zQ (zI 76 3 63 65) (.loud (zT 3 76 74) [] .nil))))))))))))))))))))
  (.reg [zM 59 13,zO 60 (.bin .add (.t 59) (.k (.int .i64 1))),zM 13 60]))))))
 .ret))))
 .skip))
 (.seq (zS [zM 77 3,zM 78 2,zB 79 .sub 77 78,zO 80 (.bin .eql (.t 79) (.k (.int .i64 1)))]
 (.cond (.t 80) (zS [zM 81 1,zM 14 81]
 (zS [zM 82 2,zM 15 82]
 (.seq (.block 4 (.loop (.seq (zS [zM 83 14,zM 84 15,zB 85 .lss 83 84]
  (.cond (.t 85) .skip
  (.exit 4)))
  (.block 5 (zS [zM 86 14,zM 87 15,zB 88 .add 86 87,zO 89 (.conv (.int .u64) (.t 88)),zO 90 (.bin .shr (.t 89) (.k (.int .u64 1))),zO 91 (.conv (.int .i64) (.t 90)),zM 16 91]
  (.seq (.dreg (zQ (zM 92 4) (zQ (zM 93 0) (zQ (zM 94 2) (zQ (zI 95 3 93 94) (zQ (zO 96 (.loadN 3 (.t 95))) (zQ (zM 97 0) (zQ (zM 98 16) (zQ (zI 99 3 97 98) (zQ (zO 100 (.loadN 3 (.t 99))) (.loud (zC 101 (.t 92) [.t 96,.t 100]) [] (zQ (zO 102 (.bin .lss (.t 101) (.k (.int .i64 0)))) (zQ (zO 103 (.un .not (.t 102))) .nil)))))))))))))
  (.cond (.t 103) (.reg [zM 104 16,zO 105 (.bin .add (.t 104) (.k (.int .i64 1))),zM 14 105])
  (.reg [zM 106 16,zM 15 106]))))))))
 (.seq (zS [zM 107 2,zM 17 107]
 (.block 6 (.loop (.seq (zS [zM 108 17,zM 109 14,zB 110 .gtr 108 109]
  (.cond (.t 110) .skip
  (.exit 6)))
  (.seq (.block 7 (.dreg (zQ (zM 113 0) (zQ (zM 114 17) (zQ (zM 115 0) (zQ (zM 116 17) (zQ (zO 117 (.bin .sub (.t 116) (.k (.int .i64 1)))) (zQ (zM 118 0) (zQ (zM 119 17) (zQ (zO 120 (.bin .sub (.t 119) (.k (.int .i64 1)))) (zQ (zI 121 3 118 120) (zQ (zO 122 (.loadN 3 (.t 121))) (zQ (zM 123 0) (zQ (zM 124 17) (zQ (zI 125 3 123 124) (zQ (zO 126 (.loadN 3 (.t 125))) (zQ (zI 127 3 113 114) (.loud (zT 3 127 122) [] (zQ (zI 128 3 115 117) (.loud (zT 3 128 126) [] .nil))))))))))))))))))))
  (.reg [zM 111 17,zO 112 (.bin .sub (.t 111) (.k (.int .i64 1))),zM 17 112]))))))
 .ret))))
 .skip))
 (zS [zM 129 1,zM 130 3,zB 131 .add 129 130,zO 132 (.conv (.int .u64) (.t 131)),zO 133 (.bin .shr (.t 132) (.k (.int .u64 1))),zO 134 (.conv (.int .i64) (.t 133)),zM 18 134]
 (zS [zM 135 18,zM 136 2,zB 137 .add 135 136,zM 19 137]
 (zS [zK 20 (.int .i64 0),zK 21 (.int .i64 0)]
 (.seq (zS [zM 138 2,zM 139 18,zB 140 .gtr 138 139]
 (.cond (.t 140) (zS [zM 141 19,zM 142 3,zB 143 .sub 141 142,zM 20 143]
 (.reg [zM 144 18,zM 21 144]))
 (zS [zM 145 1,zM 20 145]
 (.reg [zM 146 2,zM 21 146]))))
 (zS [zM 147 19,zO 148 (.bin .sub (.t 147) (.k (.int .i64 1))),zM 22 148]
 (.seq (.block 8 (.loop (.seq (zS [zM 149 20,zM 150 21,zB 151 .lss 149 150]
  (.cond (.t 151) .skip
  (.exit 8)))
  (.block 9 (zS [zM 152 20,zM 153 21,zB 154 .add 152 153,zO 155 (.conv (.int .u64) (.t 154)),zO 156 (.bin .shr (.t 155) (.k (.int .u64 1))),zO 157 (.conv (.int .i64) (.t 156)),zM 23 157]
  (.seq (.dreg (zQ (zM 158 4) (zQ (zM 159 0) (zQ (zM 160 22) (zQ (zM 161 23) (zQ (zB 162 .sub 160 161) (zQ (zI 163 3 159 162) (zQ (zO 164 (.loadN 3 (.t 163))) (zQ (zM 165 0) (zQ (zM 166 23) (zQ (zI 167 3 165 166) (zQ (zO 168 (.loadN 3 (.t 167))) (.loud (zC 169 (.t 158) [.t 164,.t 168]) [] (zQ (zO 170 (.bin .lss (.t 169) (.k (.int .i64 0)))) (zQ (zO 171 (.un .not (.t 170))) .nil)))))))))))))))
  (.cond (.t 171) (.reg [zM 172 23,zO 173 (.bin .add (.t 172) (.k (.int .i64 1))),zM 20 173])
  (.reg [zM 174 23,zM 21 174]))))))))
 (zS [zM 175 19,zM 176 20,zB 177 .sub 175 176,zM 24 177]
 (.seq (zS [zM 178 20,zM 179 2,zB 180 .lss 178 179,zM 181 180,zV 182 2 181 true,zV 183 24 181 true,zG 184 (.bin .lss (.t 182) (.t 183)) 181 true,zO 185 (.pick (.t 181) (.t 184) (.k (.bool false)))]
 (.cond (.t 185) (.reg [zM 186 0,zM 187 20,zM 188 2,zM 189 24,zM 190 4,zC 191 (.f 248) [.t 186,.t 187,.t 188,.t 189,.t 190]])
 .skip))
 (.seq (zS [zM 192 1,zM 193 20,zB 194 .lss 192 193,zM 195 194,zV 196 20 195 true,zV 197 18 195 true,zG 198 (.bin .lss (.t 196) (.t 197)) 195 true,zO 199 (.pick (.t 195) (.t 198) (.k (.bool false)))]
 (.cond (.t 199) (.reg [zM 200 0,zM 201 1,zM 202 20,zM 203 18,zM 204 4,zC 205 (.f 229) [.t 200,.t 201,.t 202,.t 203,.t 204]])
 .skip))
 (zS [zM 206 18,zM 207 24,zB 208 .lss 206 207,zM 209 208,zV 210 24 209 true,zV 211 3 209 true,zG 212 (.bin .lss (.t 210) (.t 211)) 209 true,zO 213 (.pick (.t 209) (.t 212) (.k (.bool false)))]
 (.cond (.t 213) (.reg [zM 214 0,zM 215 18,zM 216 24,zM 217 3,zM 218 4,zC 219 (.f 229) [.t 214,.t 215,.t 216,.t 217,.t 218]])
 .skip)))))))))))))
def a229:AF:=⟨220,[],.code b229,none⟩
def b230:AC:=
 (zS [zK 6 (.int .i64 0)]
 (.seq (zS [zM 10 0,zM 11 2,zC 12 (.f 201) [.t 10,.t 11],zM 7 12]
 (zS [zM 13 7,zO 14 (.bin .neq (.t 13) (.k (.int .i64 0)))]
 (.cond (.t 14) (zS [zM 15 7,zM 6 15]
 .ret)
 .skip)))
 (zS [zM 17 0,zU 18 17,zF 19 0 18,zL 20 19,zM 21 2,zI 22 1 20 21,zL 23 22,zM 24 1,zC 25 (.f 249) [.t 23,.t 24],zM 16 25,zO 26 (.extract (.t 16) 0),zO 27 (.extract (.t 16) 1),zM 8 26,zM 9 27]
 (.seq (zS [zM 28 9,zO 29 (.bin .eql (.t 28) (.k (.int .i64 0)))]
 (.cond (.t 29) (.reg [zM 30 0,zU 31 30,zF 32 0 31,zL 33 32,zM 34 2,zM 35 8,zI 36 1 33 34,zT 1 36 35])
 .skip))
 (zS [zM 37 9,zM 6 37]
 .ret)))))
def a230:AF:=⟨38,[.t 6],.code b230,none⟩
def b234:AC:=
 (zS [zK 6 (.int .u64 0),zK 7 (.int .i64 0)]
 (zS [zM 12 0,zC 13 (.f 203) [.t 12],zM 11 13,zO 14 (.extract (.t 11) 0),zO 15 (.extract (.t 11) 1),zO 16 (.extract (.t 11) 2),zM 8 14,zM 9 15,zM 10 16]
 (.seq (.block 0 (zS [zM 18 10,zO 19 (.bin .neq (.t 18) (.k (.int .i64 0))),zM 17 19]
 (.cond (.t 17) (zS [zM 20 10,zK 6 (.int .u64 0),zM 7 20]
 .ret)
 (zS [zM 22 1,zC 23 (.f 252) [.t 22],zO 24 (.un .not (.t 23)),zM 25 24,zV 26 2 25 false,zG 27 (.bin .gtr (.t 26) (.k (.int .u64 1099511627776))) 25 false,zO 28 (.pick (.t 25) (.k (.bool true)) (.t 27)),zM 21 28]
 (.cond (.t 21) (zS [zK 6 (.int .u64 0),zK 7 (.int .i64 2)]
 .ret)
 (zS [zM 30 8,zM 31 1,zB 32 .neq 30 31,zM 33 32,zV 34 2 33 false,zV 35 9 33 false,zG 36 (.bin .lss (.t 34) (.t 35)) 33 false,zO 37 (.pick (.t 33) (.k (.bool true)) (.t 36)),zM 29 37]
 (.cond (.t 29) (zS [zK 6 (.int .u64 0),zK 7 (.int .i64 8)]
 .ret)
 .skip)))))))
 (zS [zM 38 2,zC 39 (.f 253) [.t 38],zO 40 (.extract (.t 39) 0),zO 41 (.extract (.t 39) 1),zM 6 40,zM 7 41]
 .ret))))
def a234:AF:=⟨42,[.t 6,.t 7],.code b234,none⟩
def b235:AC:=
 (zS [zO 5 (.box 246 (.t 2))]
 (zS [zO 7 (.bslice 246 [] 0 []),zM 8 0,zU 9 8,zF 10 0 9,zL 11 10,zO 12 (.append 246 24 112 (.t 7) (.t 11)),zM 6 12]
 (zS [zM 13 6,zM 14 1,zO 15 (.loadN 24 (.t 5)),zI 16 24 13 14,zT 24 16 15]
 (.reg [zM 17 0,zM 18 6,zU 19 17,zF 20 0 19,zT 1 20 18]))))
def a235:AF:=⟨21,[],.code b235,none⟩
def b236:AC:=
 (zS [zK 2 (.int .i64 0)]
 (zS [zK 3 (.int .i64 0)]
 (.seq (zS [zK 4 (.int .i64 0)]
 (.block 0 (.loop (.seq (zS [zM 6 0,zO 7 (.eq true .ptr (.t 6) (.k (.pointer none))),zM 8 7,zV 9 4 8 true,zV 10 0 8 true,zG 11 (.nilchk (.t 10)) 8 true,zG 12 (.faddr 0 (.t 11)) 8 true,zG 13 (.load (.t 12)) 8 true,zG 14 (.lenS (.t 13)) 8 true,zG 15 (.bin .lss (.t 9) (.t 14)) 8 true,zO 16 (.pick (.t 8) (.t 15) (.k (.bool false)))]
  (.cond (.t 16) .skip
  (.exit 0)))
  (.seq (.block 1 (zS [zK 5 (.int .i64 0)]
  (.block 2 (.loop (.seq (zS [zM 19 5,zO 20 (.bin .lss (.t 19) (.k (.int .i64 12)))]
   (.cond (.t 20) .skip
   (.exit 2)))
   (.seq (.block 3 (zS [zM 23 0,zU 24 23,zF 25 0 24,zL 26 25,zM 27 4,zM 28 5,zI 29 24 26 27,zF 30 0 29,zO 31 (.iaddrA 12 1 (.t 30) (.t 28)),zL 32 31]
   (.cond (.t 32) (.reg [zM 33 3,zO 34 (.bin .add (.t 33) (.k (.int .i64 1))),zM 3 34])
   .skip)))
   (.reg [zM 21 5,zO 22 (.bin .add (.t 21) (.k (.int .i64 1))),zM 5 22])))))))
  (.reg [zM 17 4,zO 18 (.bin .add (.t 17) (.k (.int .i64 1))),zM 4 18]))))))
 (zS [zM 35 3,zM 2 35]
 .ret))))
def a236:AF:=⟨36,[.t 2],.code b236,none⟩
def b237:AC:=
 (zS [zK 4 (.int .u64 0),zK 5 (.int .i64 0)]
 (.seq (zS [zM 6 0,zC 7 (.f 252) [.t 6],zO 8 (.un .not (.t 7)),zM 9 8,zV 10 1 9 false,zG 11 (.bin .gtr (.t 10) (.k (.int .u64 1099511627776))) 9 false,zO 12 (.pick (.t 9) (.k (.bool true)) (.t 11))]
 (.cond (.t 12) (zS [zK 4 (.int .u64 0),zK 5 (.int .i64 2)]
 .ret)
 .skip))
 (zS [zM 13 1,zO 14 (.bin .mul (.t 13) (.k (.int .u64 32))),zM 15 0,zO 16 (.conv (.int .u64) (.t 15)),zO 17 (.bin .mul (.t 16) (.k (.int .u64 2))),zB 18 .add 14 17,zO 19 (.bin .add (.t 18) (.k (.int .u64 1))),zM 4 19,zK 5 (.int .i64 0)]
 .ret)))
def a237:AF:=⟨20,[.t 4,.t 5],.code b237,none⟩
def b238:AC:=
 (zS [zK 2 (.bool false)]
 (zS [zM 3 0,zO 4 (.bin .geq (.t 3) (.k (.int .i64 0))),zM 5 4,zV 6 0 5 true,zG 7 (.bin .lss (.t 6) (.k (.int .i64 4))) 5 true,zO 8 (.pick (.t 5) (.t 7) (.k (.bool false))),zM 2 8]
 .ret))
def a238:AF:=⟨9,[.t 2],.code b238,none⟩
def b239:AC:=
 (zS [zK 4 (.slice none 0 0)]
 (zS [zK 5 (.slice none 0 0)]
 (.seq (zS [zM 9 1,zE 10 9,zK 11 (.int .i64 0)]
 (.block 0 (.loop (zS [zB 12 .lss 11 10]
  (.seq (.cond (.t 12) .skip
  (.exit 0))
  (.seq (.block 1 (zS [zI 13 1 9 11,zL 14 13,zM 7 14]
  (zS [zM 15 0,zM 16 7,zC 17 (.f 103) [.t 15,.t 16],zM 8 17]
  (zS [zM 18 8,zO 19 (.bin .geq (.t 18) (.k (.int .i64 0)))]
  (.cond (.t 19) (.reg [zM 20 5,zM 21 8,zO 22 (.bslice 3 [(.int .i64 0)] 1 [(0,1,(.t 21))]),zO 23 (.append 3 1 8 (.t 20) (.t 22)),zM 5 23])
  .skip)))))
  (.reg [zO 24 (.bin .add (.t 11) (.k (.int .i64 1))),zM 11 24])))))))
 (zS [zM 25 5,zC 26 (.f 57) [.t 25]]
 (zS [zM 27 5,zC 28 (.f 254) [.t 27],zM 4 28]
 .ret)))))
def a239:AF:=⟨29,[.t 4],.code b239,none⟩
def b240:AC:=
 (zS [zK 4 (.int .i64 0)]
 (.seq (zS [zM 6 0,zE 7 6,zK 8 (.int .i64 0)]
 (.block 0 (.loop (zS [zB 9 .lss 8 7]
  (.seq (.cond (.t 9) .skip
  (.exit 0))
  (.seq (.block 1 (zS [zM 10 8,zM 5 10]
  (zS [zM 11 1,zM 12 0,zM 13 5,zI 14 1 12 13,zL 15 14,zB 16 .eql 11 15]
  (.cond (.t 16) (zS [zM 17 5,zM 4 17]
  .ret)
  .skip))))
  (.reg [zO 18 (.bin .add (.t 8) (.k (.int .i64 1))),zM 8 18])))))))
 (zS [zK 4 (.int .i64 (-1))]
 .ret)))
def a240:AF:=⟨19,[.t 4],.code b240,none⟩
def b241:AC:=
 (zS [zK 3 (.int .u64 0),zK 4 (.int .i64 0)]
 (zS [zM 5 0,zL 6 1,zC 7 (.f 242) [.t 5,.t 6],zO 8 (.extract (.t 7) 0),zO 9 (.extract (.t 7) 1),zM 3 8,zM 4 9]
 .ret))
def a241:AF:=⟨10,[.t 3,.t 4],.code b241,none⟩
def b242:AC:=
 (zS [zK 4 (.int .u64 0),zK 5 (.int .i64 0)]
 (zS [zM 9 0,zM 10 1,zC 11 (.f 244) [.t 9,.t 10],zM 8 11,zO 12 (.extract (.t 8) 0),zO 13 (.extract (.t 8) 1),zO 6 (.alloc 209 [(.int .i64 0),(.int .u64 0)]),zT 2 6 12,zM 7 13]
 (.seq (.block 0 (zS [zM 15 7,zO 16 (.bin .neq (.t 15) (.k (.int .i64 0))),zM 14 16]
 (.cond (.t 14) (zS [zM 17 7,zK 4 (.int .u64 0),zM 5 17]
 .ret)
 (zS [zF 19 0 6,zL 20 19,zM 21 1,zB 22 .eql 20 21,zM 18 22]
 (.cond (.t 18) (zS [zK 4 (.int .u64 0),zK 5 (.int .i64 6)]
 .ret)
 (zS [zF 24 0 6,zL 25 24,zO 26 (.bin .neq (.t 25) (.k (.int .i64 (-1)))),zM 23 26]
 (.cond (.t 23) (zS [zK 4 (.int .u64 0),zK 5 (.int .i64 7)]
 .ret)
 .skip)))))))
 (zS [zM 27 1,zF 28 1 6,zL 29 28,zO 30 (.build [(.int .i64 0),(.int .u64 0)] [(0,1,(.t 27)),(1,1,(.t 29))]),zC 31 (.f 255) [.t 30],zO 32 (.extract (.t 31) 0),zO 33 (.extract (.t 31) 1),zM 4 32,zM 5 33]
 .ret))))
def a242:AF:=⟨34,[.t 4,.t 5],.code b242,none⟩
def b243:AC:=
 (zS [zK 2 (.int .u64 0),zK 3 (.int .i64 0)]
 (zS [zM 7 0,zU 8 7,zF 9 0 8,zL 10 9,zC 11 (.f 256) [.t 10],zM 6 11,zO 12 (.extract (.t 6) 0),zO 13 (.extract (.t 6) 1),zM 4 12,zM 5 13]
 (.seq (zS [zM 14 5,zO 15 (.bin .neq (.t 14) (.k (.int .i64 0)))]
 (.cond (.t 15) (zS [zM 16 5,zK 2 (.int .u64 0),zM 3 16]
 .ret)
 .skip))
 (zS [zM 17 0,zM 18 4,zU 19 17,zF 20 0 19,zT 1 20 18]
 (zS [zM 21 4,zM 2 21,zK 3 (.int .i64 0)]
 .ret)))))
def a243:AF:=⟨22,[.t 2,.t 3],.code b243,none⟩
def b244:AC:=
 (zS [zO 4 (.alloc 209 [(.int .i64 0),(.int .u64 0)]),zK 5 (.int .i64 0)]
 (zS [zM 9 0,zC 10 (.f 149) [.t 9],zM 8 10,zO 11 (.extract (.t 8) 0),zO 12 (.extract (.t 8) 1),zO 6 (.alloc 209 [(.int .i64 0),(.int .u64 0)]),zT 2 6 11,zM 7 12]
 (.seq (.block 0 (zS [zM 14 7,zO 15 (.un .not (.t 14)),zM 13 15]
 (.cond (.t 13) (zS [zO 16 (.build [(.int .i64 0),(.int .u64 0)] []),zT 2 4 16,zK 5 (.int .i64 3)]
 .ret)
 (zS [zM 18 1,zC 19 (.f 238) [.t 18],zO 20 (.un .not (.t 19)),zM 17 20]
 (.cond (.t 17) (zS [zO 21 (.build [(.int .i64 0),(.int .u64 0)] []),zT 2 4 21,zK 5 (.int .i64 2)]
 .ret)
 .skip)))))
 (zS [zO 22 (.loadN 2 (.t 6)),zT 2 4 22,zK 5 (.int .i64 0)]
 .ret))))
def a244:AF:=⟨23,[(.c 4 true 2),.t 5],.code b244,none⟩
def b245:AC:=
 (zS [zK 2 (.int .u64 0),zK 3 (.int .i64 0)]
 (zS [zM 4 0,zO 5 (.build [(.int .i64 0),(.int .u64 0)] [(0,1,(.k (.int .i64 (-1)))),(1,1,(.t 4))]),zC 6 (.f 255) [.t 5],zO 7 (.extract (.t 6) 0),zO 8 (.extract (.t 6) 1),zM 2 7,zM 3 8]
 .ret))
def a245:AF:=⟨9,[.t 2,.t 3],.code b245,none⟩
def b246:AC:=
 (zS [zK 2 (.slice none 0 0)]
 (.seq (zS [zM 3 0,⟨some 4,(.isnil false (.t 3)),none⟩]
 (.cond (.t 4) (zS [zK 2 (.slice none 0 0)]
 .ret)
 .skip))
 (zS [zO 5 (.bslice 104 [] 0 []),zM 6 0,zO 7 (.append 104 2 16 (.t 5) (.t 6)),zM 2 7]
 .ret)))
def a246:AF:=⟨8,[.t 2],.code b246,none⟩
def b248:AC:=
 (zS [zM 12 2,zM 13 1,zB 14 .sub 12 13,zM 10 14]
 (zS [zM 15 3,zM 16 2,zB 17 .sub 15 16,zM 11 17]
 (.seq (.block 0 (.loop (.seq (zS [zM 18 10,zM 19 11,zB 20 .neq 18 19]
  (.cond (.t 20) .skip
  (.exit 0)))
  (.block 1 (zS [zM 21 10,zM 22 11,zB 23 .gtr 21 22]
  (.cond (.t 23) (zS [zM 24 0,zM 25 2,zM 26 10,zB 27 .sub 25 26,zM 28 2,zM 29 11,zM 30 4,zC 31 (.f 257) [.t 24,.t 27,.t 28,.t 29,.t 30]]
  (.reg [zM 32 10,zM 33 11,zB 34 .sub 32 33,zM 10 34]))
  (zS [zM 35 0,zM 36 2,zM 37 10,zB 38 .sub 36 37,zM 39 2,zM 40 11,zB 41 .add 39 40,zM 42 10,zB 43 .sub 41 42,zM 44 10,zM 45 4,zC 46 (.f 257) [.t 35,.t 38,.t 43,.t 44,.t 45]]
  (.reg [zM 47 11,zM 48 10,zB 49 .sub 47 48,zM 11 49]))))))))
 (.reg [zM 50 0,zM 51 2,zM 52 10,zB 53 .sub 51 52,zM 54 2,zM 55 10,zM 56 4,zC 57 (.f 257) [.t 50,.t 53,.t 54,.t 55,.t 56]]))))
def a248:AF:=⟨58,[],.code b248,none⟩
def b249:AC:=
 (zS [zK 4 (.int .u64 0),zK 5 (.int .i64 0)]
 (zS [zM 10 0,zC 11 (.f 203) [.t 10],zM 9 11,zO 12 (.extract (.t 9) 0),zO 13 (.extract (.t 9) 1),zO 14 (.extract (.t 9) 2),zM 6 12,zM 7 13,zM 8 14]
 (.seq (.block 0 (zS [zM 16 8,zO 17 (.bin .neq (.t 16) (.k (.int .i64 0))),zM 15 17]
 (.cond (.t 15) (zS [zM 18 8,zK 4 (.int .u64 0),zM 5 18]
 .ret)
 (zS [zM 20 1,zC 21 (.f 252) [.t 20],zO 22 (.un .not (.t 21)),zM 19 22]
 (.cond (.t 19) (zS [zK 4 (.int .u64 0),zK 5 (.int .i64 2)]
 .ret)
 (zS [zM 24 6,zM 25 1,zB 26 .neq 24 25,zM 23 26]
 (.cond (.t 23) (zS [zK 4 (.int .u64 0),zK 5 (.int .i64 8)]
 .ret)
 .skip)))))))
 (zS [zM 27 7,zC 28 (.f 253) [.t 27],zO 29 (.extract (.t 28) 0),zO 30 (.extract (.t 28) 1),zM 4 29,zM 5 30]
 .ret))))
def a249:AF:=⟨31,[.t 4,.t 5],.code b249,none⟩
def b250:AC:=
 (zS [zK 4 (.int .u64 0),zK 5 (.int .i64 0)]
 (zS [zM 10 0,zC 11 (.f 203) [.t 10],zM 9 11,zO 12 (.extract (.t 9) 0),zO 13 (.extract (.t 9) 1),zO 14 (.extract (.t 9) 2),zM 6 12,zM 7 13,zM 8 14]
 (.seq (.block 0 (zS [zM 16 8,zO 17 (.bin .neq (.t 16) (.k (.int .i64 0))),zM 15 17]
 (.cond (.t 15) (zS [zM 18 8,zK 4 (.int .u64 0),zM 5 18]
 .ret)
 (zS [zM 20 1,zC 21 (.f 252) [.t 20],zO 22 (.un .not (.t 21)),zM 19 22]
 (.cond (.t 19) (zS [zK 4 (.int .u64 0),zK 5 (.int .i64 2)]
 .ret)
 (zS [zM 24 6,zM 25 1,zB 26 .eql 24 25,zM 23 26]
 (.cond (.t 23) (zS [zK 4 (.int .u64 0),zK 5 (.int .i64 6)]
 .ret)
 (zS [zM 28 6,zO 29 (.bin .geq (.t 28) (.k (.int .i64 0))),zM 27 29]
 (.cond (.t 27) (zS [zK 4 (.int .u64 0),zK 5 (.int .i64 7)]
 .ret)
 .skip)))))))))
 (zS [zM 30 1,zM 31 7,zC 32 (.f 237) [.t 30,.t 31],zO 33 (.extract (.t 32) 0),zO 34 (.extract (.t 32) 1),zM 4 33,zM 5 34]
 .ret))))
def a250:AF:=⟨35,[.t 4,.t 5],.code b250,none⟩
def b251:AC:=
 (zS [zK 2 (.int .u64 0),zK 3 (.int .i64 0)]
 (.seq (.block 0 (zS [zM 5 0,zO 6 (.bin .gtr (.t 5) (.k (.int .u64 1099511627776))),zM 4 6]
 (.cond (.t 4) (zS [zK 2 (.int .u64 0),zK 3 (.int .i64 2)]
 .ret)
 (zS [zM 8 0,zO 9 (.bin .eql (.t 8) (.k (.int .u64 1099511627776))),zM 7 9]
 (.cond (.t 7) (zS [zK 2 (.int .u64 0),zK 3 (.int .i64 4)]
 .ret)
 .skip)))))
 (zS [zM 10 0,zO 11 (.bin .add (.t 10) (.k (.int .u64 1))),zM 2 11,zK 3 (.int .i64 0)]
 .ret)))
def a251:AF:=⟨12,[.t 2,.t 3],.code b251,none⟩
def b252:AC:=
 (zS [zK 2 (.bool false)]
 (zS [zM 3 0,zO 4 (.bin .geq (.t 3) (.k (.int .i64 0))),zM 5 4,zV 6 0 5 true,zG 7 (.bin .lss (.t 6) (.k (.int .i64 4))) 5 true,zO 8 (.pick (.t 5) (.t 7) (.k (.bool false))),zM 2 8]
 .ret))
def a252:AF:=⟨9,[.t 2],.code b252,none⟩
def b253:AC:=
 (zS [zK 2 (.int .u64 0),zK 3 (.int .i64 0)]
 (.seq (zS [zM 4 0,zO 5 (.bin .gtr (.t 4) (.k (.int .u64 1099511627776)))]
 (.cond (.t 5) (zS [zK 2 (.int .u64 0),zK 3 (.int .i64 2)]
 .ret)
 .skip))
 (zS [zM 6 0,zO 7 (.bin .mul (.t 6) (.k (.int .u64 32))),zM 2 7,zK 3 (.int .i64 0)]
 .ret)))
def a253:AF:=⟨8,[.t 2,.t 3],.code b253,none⟩
def b255:AC:=
 (zS [zO 1 (.box 209 (.t 0)),zK 2 (.int .u64 0),zK 3 (.int .i64 0)]
 (.seq (zS [zO 4 (.loadN 2 (.t 1)),zC 5 (.f 205) [.t 4],zO 6 (.un .not (.t 5))]
 (.cond (.t 6) (zS [zK 2 (.int .u64 0),zK 3 (.int .i64 2)]
 .ret)
 .skip))
 (zS [zO 7 (.loadN 2 (.t 1)),zC 8 (.f 258) [.t 7],zM 2 8,zK 3 (.int .i64 0)]
 .ret)))
def a255:AF:=⟨9,[.t 2,.t 3],.code b255,none⟩
def b256:AC:=
 (zS [zK 2 (.int .u64 0),zK 3 (.int .i64 0)]
 (.seq (zS [zM 4 0,zO 5 (.bin .gtr (.t 4) (.k (.int .u64 1099511627776)))]
 (.cond (.t 5) (zS [zK 2 (.int .u64 0),zK 3 (.int .i64 2)]
 .ret)
 .skip))
 (.seq (zS [zM 6 0,zO 7 (.bin .eql (.t 6) (.k (.int .u64 1099511627776)))]
 (.cond (.t 7) (zS [zK 2 (.int .u64 0),zK 3 (.int .i64 4)]
 .ret)
 .skip))
 (zS [zM 8 0,zO 9 (.bin .add (.t 8) (.k (.int .u64 1))),zM 2 9,zK 3 (.int .i64 0)]
 .ret))))
def a256:AF:=⟨10,[.t 2,.t 3],.code b256,none⟩
def b257:AC:=
 (zS [zK 10 (.int .i64 0)]
 (.block 0 (.loop (.seq (zS [zM 11 10,zM 12 3,zB 13 .lss 11 12]
  (.cond (.t 13) .skip
  (.exit 0)))
  (.seq (.block 1 (.dreg (zQ (zM 16 0) (zQ (zM 17 1) (zQ (zM 18 10) (zQ (zB 19 .add 17 18) (zQ (zM 20 0) (zQ (zM 21 2) (zQ (zM 22 10) (zQ (zB 23 .add 21 22) (zQ (zM 24 0) (zQ (zM 25 2) (zQ (zM 26 10) (zQ (zB 27 .add 25 26) (zQ (zI 28 3 24 27) (zQ (zO 29 (.loadN 3 (.t 28))) (zQ (zM 30 0) (zQ (zM 31 1) (zQ (zM 32 10) (zQ (zB 33 .add 31 32) (zQ (zI 34 3 30 33) (zQ (zO 35 (.loadN 3 (.t 34))) (zQ (zI 36 3 16 19) (.loud (zT 3 36 29) [] (zQ (zI 37 3 20 23) (.loud (zT 3 37 35) [] .nil))))))))))))))))))))))))))
  (.reg [zM 14 10,zO 15 (.bin .add (.t 14) (.k (.int .i64 1))),zM 10 15]))))))
def a257:AF:=⟨38,[],.code b257,none⟩
def b258:AC:=
 (zS [zO 1 (.box 209 (.t 0)),zK 2 (.int .u64 0)]
 (zS [zF 4 1 1,zL 5 4,zO 6 (.bin .shl (.t 5) (.k (.int .u64 5))),zM 3 6]
 (.seq (zS [zF 7 0 1,zL 8 7,zO 9 (.bin .neq (.t 8) (.k (.int .i64 (-1))))]
 (.cond (.t 9) (.reg [zM 10 3,zF 11 0 1,zL 12 11,zO 13 (.conv (.int .u64) (.t 12)),zO 14 (.bin .shl (.t 13) (.k (.int .u64 1))),zO 15 (.bin .or (.t 14) (.k (.int .u64 1))),zB 16 .or 10 15,zM 3 16])
 .skip))
 (zS [zM 17 3,zM 2 17]
 .ret))))
def a258:AF:=⟨18,[.t 2],.code b258,none⟩
def zTu:FuncId->Option AF
 |6=> some a6
 |7=> some a7
 |10=> some a10
 |11=> some a11
 |12=> some a12
 |13=> some a13
 |14=> some a14
 |15=> some a15
 |16=> some a16
 |21=> some a21
 |22=> some a22
 |24=> some a24
 |25=> some a25
 |26=> some a26
 |28=> some a28
 |29=> some a29
 |30=> some a30
 |31=> some a31
 |41=> some a41
 |42=> some a42
 |43=> some a43
 |44=> some a44
 |45=> some a45
 |46=> some a46
 |47=> some a47
 |48=> some a48
 |49=> some a49
 |50=> some a50
 |51=> some a51
 |52=> some a52
 |53=> some a53
 |55=> some a55
 |56=> some a56
 |57=> some a57
 |58=> some a58
 |59=> some a59
 |60=> some a60
 |61=> some a61
 |62=> some a62
 |63=> some a63
 |64=> some a64
 |65=> some a65
 |66=> some a66
 |67=> some a67
 |68=> some a68
 |97=> some a97
 |98=> some a98
 |102=> some a102
 |103=> some a103
 |104=> some a104
 |105=> some a105
 |106=> some a106
 |107=> some a107
 |108=> some a108
 |109=> some a109
 |110=> some a110
 |111=> some a111
 |112=> some a112
 |113=> some a113
 |114=> some a114
 |115=> some a115
 |116=> some a116
 |117=> some a117
 |118=> some a118
 |119=> some a119
 |120=> some a120
 |121=> some a121
 |122=> some a122
 |123=> some a123
 |124=> some a124
 |125=> some a125
 |132=> some a132
 |141=> some a141
 |144=> some a144
 |148=> some a148
 |149=> some a149
 |150=> some a150
 |151=> some a151
 |152=> some a152
 |153=> some a153
 |154=> some a154
 |155=> some a155
 |156=> some a156
 |157=> some a157
 |_=> none
theorem qEs:∀f af,zTu f=some af->AFOk Tryz.prog ext f af:=by
 intro f af h
 unfold zTu at h
 split at h
 ·cases h;exact okZ Tryz.func6
 ·cases h;exact okZ Tryz.func7
 ·cases h;exact okZ Tryz.func10
 ·cases h;exact okZ Tryz.func11
 ·cases h;exact okZ Tryz.func12
 ·cases h;exact okZ Tryz.func13
 ·cases h;exact okZ Tryz.func14
 ·cases h;exact okZ Tryz.func15
 ·cases h;exact okZ Tryz.func16
 ·cases h;exact okZ Tryz.func21
 ·cases h;exact okZ Tryz.func22
 ·cases h;exact okZ Tryz.func24
 ·cases h;exact okZ Tryz.func25
 ·cases h;exact okZ Tryz.func26
 ·cases h;exact okZ Tryz.func28
 ·cases h;exact okZ Tryz.func29
 ·cases h;exact okZ Tryz.func30
 ·cases h;exact okZ Tryz.func31
 ·cases h;exact okZ Tryz.func41
 ·cases h;exact okZ Tryz.func42
 ·cases h;exact okZ Tryz.func43
 ·cases h;exact okZ Tryz.func44
 ·cases h;exact okZ Tryz.func45
 ·cases h;exact okZ Tryz.func46
 ·cases h;exact okZ Tryz.func47
 ·cases h;exact okZ Tryz.func48
 ·cases h;exact okZ Tryz.func49
 ·cases h;exact okZ Tryz.func50
 ·cases h;exact okZ Tryz.func51
 ·cases h;exact okZ Tryz.func52
 ·cases h;exact okZ Tryz.func53
 ·cases h;exact okZ Tryz.func55
 ·cases h;exact okZ Tryz.func56
 ·cases h;exact okZ Tryz.func57
 ·cases h;exact okZ Tryz.func58
 ·cases h;exact okZ Tryz.func59
 ·cases h;exact okZ Tryz.func60
 ·cases h;exact okZ Tryz.func61
 ·cases h;exact okZ Tryz.func62
 ·cases h;exact okZ Tryz.func63
 ·cases h;exact okZ Tryz.func64
 ·cases h;exact okZ Tryz.func65
 ·cases h;exact okZ Tryz.func66
 ·cases h;exact okZ Tryz.func67
 ·cases h;exact okZ Tryz.func68
 ·cases h;exact okZ Tryz.func97
 ·cases h;exact okZ Tryz.func98
 ·cases h;exact okZ Tryz.func102
 ·cases h;exact okZ Tryz.func103
 ·cases h;exact okZ Tryz.func104
 ·cases h;exact okZ Tryz.func105
 ·cases h;exact okZ Tryz.func106
 ·cases h;exact okZ Tryz.func107
 ·cases h;exact okZ Tryz.func108
 ·cases h;exact okZ Tryz.func109
 ·cases h;exact okZ Tryz.func110
 ·cases h;exact okZ Tryz.func111
 ·cases h;exact okZ Tryz.func112
 ·cases h;exact okZ Tryz.func113
 ·cases h;exact okZ Tryz.func114
 ·cases h;exact okZ Tryz.func115
 ·cases h;exact okZ Tryz.func116
 ·cases h;exact okZ Tryz.func117
 ·cases h;exact okZ Tryz.func118
 ·cases h;exact okZ Tryz.func119
 ·cases h;exact okZ Tryz.func120
 ·cases h;exact okZ Tryz.func121
 ·cases h;exact okZ Tryz.func122
 ·cases h;exact okZ Tryz.func123
 ·cases h;exact okZ Tryz.func124
 ·cases h;exact okZ Tryz.func125
 ·cases h;exact okZ Tryz.func132
 ·cases h;exact okZ Tryz.func141
 ·cases h;exact okZ Tryz.func144
 ·cases h;exact okZ Tryz.func148
 ·cases h;exact okZ Tryz.func149
 ·cases h;exact okZ Tryz.func150
 ·cases h;exact okZ Tryz.func151
 ·cases h;exact okZ Tryz.func152
 ·cases h;exact okZ Tryz.func153
 ·cases h;exact okZ Tryz.func154
 ·cases h;exact okZ Tryz.func155
 ·cases h;exact okZ Tryz.func156
 ·cases h;exact okZ Tryz.func157
 ·cases h
def zTt:FuncId->Option AF
 |158=> some a158
 |159=> some a159
 |160=> some a160
 |161=> some a161
 |162=> some a162
 |163=> some a163
 |164=> some a164
 |165=> some a165
 |166=> some a166
 |176=> some a176
 |177=> some a177
 |178=> some a178
 |179=> some a179
 |180=> some a180
 |181=> some a181
 |182=> some a182
 |183=> some a183
 |184=> some a184
 |185=> some a185
 |187=> some a187
 |197=> some a197
 |198=> some a198
 |199=> some a199
 |200=> some a200
 |201=> some a201
 |202=> some a202
 |203=> some a203
 |204=> some a204
 |205=> some a205
 |206=> some a206
 |207=> some a207
 |208=> some a208
 |209=> some a209
 |210=> some a210
 |211=> some a211
 |212=> some a212
 |213=> some a213
 |214=> some a214
 |215=> some a215
 |216=> some a216
 |217=> some a217
 |218=> some a218
 |219=> some a219
 |222=> some a222
 |226=> some a226
 |227=> some a227
 |228=> some a228
 |229=> some a229
 |230=> some a230
 |234=> some a234
 |235=> some a235
 |236=> some a236
 |237=> some a237
 |238=> some a238
 |239=> some a239
 |240=> some a240
 |241=> some a241
 |242=> some a242
 |243=> some a243
 |244=> some a244
 |245=> some a245
 |246=> some a246
 |248=> some a248
 |249=> some a249
 |250=> some a250
 |251=> some a251
 |252=> some a252
 |253=> some a253
 |255=> some a255
 |_=> none
theorem qEr:∀f af,zTt f=some af->AFOk Tryz.prog ext f af:=by
 intro f af h
 unfold zTt at h
 split at h
 ·cases h;exact okZ Tryz.func158
 ·cases h;exact okZ Tryz.func159
 ·cases h;exact okZ Tryz.func160
 ·cases h;exact okZ Tryz.func161
 ·cases h;exact okZ Tryz.func162
 ·cases h;exact okZ Tryz.func163
 ·cases h;exact okZ Tryz.func164
 ·cases h;exact okZ Tryz.func165
 ·cases h;exact okZ Tryz.func166
 ·cases h;exact okZ Tryz.func176
 ·cases h;exact okZ Tryz.func177
 ·cases h;exact okZ Tryz.func178
 ·cases h;exact okZ Tryz.func179
 ·cases h;exact okZ Tryz.func180
 ·cases h;exact okZ Tryz.func181
 ·cases h;exact okZ Tryz.func182
 ·cases h;exact okZ Tryz.func183
 ·cases h;exact okZ Tryz.func184
 ·cases h;exact okZ Tryz.func185
 ·cases h;exact okZ Tryz.func187
 ·cases h;exact okZ Tryz.func197
 ·cases h;exact okZ Tryz.func198
 ·cases h;exact okZ Tryz.func199
 ·cases h;exact okZ Tryz.func200
 ·cases h;exact okZ Tryz.func201
 ·cases h;exact okZ Tryz.func202
 ·cases h;exact okZ Tryz.func203
 ·cases h;exact okZ Tryz.func204
 ·cases h;exact okZ Tryz.func205
 ·cases h;exact okZ Tryz.func206
 ·cases h;exact okZ Tryz.func207
 ·cases h;exact okZ Tryz.func208
 ·cases h;exact okZ Tryz.func209
 ·cases h;exact okZ Tryz.func210
 ·cases h;exact okZ Tryz.func211
 ·cases h;exact okZ Tryz.func212
 ·cases h;exact okZ Tryz.func213
 ·cases h;exact okZ Tryz.func214
 ·cases h;exact okZ Tryz.func215
 ·cases h;exact okZ Tryz.func216
 ·cases h;exact okZ Tryz.func217
 ·cases h;exact okZ Tryz.func218
 ·cases h;exact okZ Tryz.func219
 ·cases h;exact okZ Tryz.func222
 ·cases h;exact okZ Tryz.func226
 ·cases h;exact okZ Tryz.func227
 ·cases h;exact okZ Tryz.func228
 ·cases h;exact okZ Tryz.func229
 ·cases h;exact okZ Tryz.func230
 ·cases h;exact okZ Tryz.func234
 ·cases h;exact okZ Tryz.func235
 ·cases h;exact okZ Tryz.func236
 ·cases h;exact okZ Tryz.func237
 ·cases h;exact okZ Tryz.func238
 ·cases h;exact okZ Tryz.func239
 ·cases h;exact okZ Tryz.func240
 ·cases h;exact okZ Tryz.func241
 ·cases h;exact okZ Tryz.func242
 ·cases h;exact okZ Tryz.func243
 ·cases h;exact okZ Tryz.func244
 ·cases h;exact okZ Tryz.func245
 ·cases h;exact okZ Tryz.func246
 ·cases h;exact okZ Tryz.func248
 ·cases h;exact okZ Tryz.func249
 ·cases h;exact okZ Tryz.func250
 ·cases h;exact okZ Tryz.func251
 ·cases h;exact okZ Tryz.func252
 ·cases h;exact okZ Tryz.func253
 ·cases h;exact okZ Tryz.func255
 ·cases h
def zTs:FuncId->Option AF
 |256=> some a256
 |257=> some a257
 |258=> some a258
 |_=> none
theorem qEq:∀f af,zTs f=some af->AFOk Tryz.prog ext f af:=by
 intro f af h
 unfold zTs at h
 split at h
 ·cases h;exact okZ Tryz.func256
 ·cases h;exact okZ Tryz.func257
 ·cases h;exact okZ Tryz.func258
 ·cases h
def forms:FuncId->Option AF:=fun f=> if f<158 then zTu f else if f<256 then zTt f else zTs f
theorem qN3:∀f af,forms f=some af->AFOk Tryz.prog ext f af:=by
 intro f af h
 unfold forms at h
 repeat' split at h
 ·exact qEs f af h
 ·exact qEr f af h
 ·exact qEq f af h
theorem forms6:forms 6=some a6:=rfl
theorem forms7:forms 7=some a7:=rfl
theorem forms10:forms 10=some a10:=rfl
theorem forms11:forms 11=some a11:=rfl
theorem forms12:forms 12=some a12:=rfl
theorem forms13:forms 13=some a13:=rfl
theorem forms14:forms 14=some a14:=rfl
theorem forms15:forms 15=some a15:=rfl
theorem forms16:forms 16=some a16:=rfl
theorem forms21:forms 21=some a21:=rfl
theorem forms22:forms 22=some a22:=rfl
theorem forms24:forms 24=some a24:=rfl
theorem forms25:forms 25=some a25:=rfl
theorem forms26:forms 26=some a26:=rfl
theorem forms28:forms 28=some a28:=rfl
theorem forms29:forms 29=some a29:=rfl
theorem forms30:forms 30=some a30:=rfl
theorem forms31:forms 31=some a31:=rfl
theorem forms41:forms 41=some a41:=rfl
theorem forms42:forms 42=some a42:=rfl
theorem forms43:forms 43=some a43:=rfl
theorem forms44:forms 44=some a44:=rfl
theorem forms45:forms 45=some a45:=rfl
theorem forms46:forms 46=some a46:=rfl
theorem forms47:forms 47=some a47:=rfl
theorem forms48:forms 48=some a48:=rfl
theorem forms49:forms 49=some a49:=rfl
theorem forms50:forms 50=some a50:=rfl
theorem forms51:forms 51=some a51:=rfl
theorem forms52:forms 52=some a52:=rfl
theorem forms53:forms 53=some a53:=rfl
theorem forms55:forms 55=some a55:=rfl
theorem forms56:forms 56=some a56:=rfl
theorem forms57:forms 57=some a57:=rfl
theorem forms58:forms 58=some a58:=rfl
theorem forms59:forms 59=some a59:=rfl
theorem forms60:forms 60=some a60:=rfl
theorem forms61:forms 61=some a61:=rfl
theorem forms62:forms 62=some a62:=rfl
theorem forms63:forms 63=some a63:=rfl
theorem forms64:forms 64=some a64:=rfl
theorem forms65:forms 65=some a65:=rfl
theorem forms66:forms 66=some a66:=rfl
theorem forms67:forms 67=some a67:=rfl
theorem forms68:forms 68=some a68:=rfl
theorem forms97:forms 97=some a97:=rfl
theorem forms98:forms 98=some a98:=rfl
theorem forms102:forms 102=some a102:=rfl
theorem forms103:forms 103=some a103:=rfl
theorem forms104:forms 104=some a104:=rfl
theorem forms105:forms 105=some a105:=rfl
theorem forms106:forms 106=some a106:=rfl
theorem forms107:forms 107=some a107:=rfl
theorem forms108:forms 108=some a108:=rfl
theorem forms109:forms 109=some a109:=rfl
theorem forms110:forms 110=some a110:=rfl
theorem forms111:forms 111=some a111:=rfl
theorem forms112:forms 112=some a112:=rfl
theorem forms113:forms 113=some a113:=rfl
theorem forms114:forms 114=some a114:=rfl
theorem forms115:forms 115=some a115:=rfl
theorem forms116:forms 116=some a116:=rfl
theorem forms117:forms 117=some a117:=rfl
theorem forms118:forms 118=some a118:=rfl
theorem forms119:forms 119=some a119:=rfl
theorem forms120:forms 120=some a120:=rfl
theorem forms121:forms 121=some a121:=rfl
theorem forms122:forms 122=some a122:=rfl
theorem forms123:forms 123=some a123:=rfl
theorem forms124:forms 124=some a124:=rfl
theorem forms125:forms 125=some a125:=rfl
theorem forms132:forms 132=some a132:=rfl
theorem forms141:forms 141=some a141:=rfl
theorem forms144:forms 144=some a144:=rfl
theorem forms148:forms 148=some a148:=rfl
theorem forms149:forms 149=some a149:=rfl
theorem forms150:forms 150=some a150:=rfl
theorem forms151:forms 151=some a151:=rfl
theorem forms152:forms 152=some a152:=rfl
theorem forms153:forms 153=some a153:=rfl
theorem forms154:forms 154=some a154:=rfl
theorem forms155:forms 155=some a155:=rfl
theorem forms156:forms 156=some a156:=rfl
theorem forms157:forms 157=some a157:=rfl
theorem forms158:forms 158=some a158:=rfl
theorem forms159:forms 159=some a159:=rfl
theorem forms160:forms 160=some a160:=rfl
theorem forms161:forms 161=some a161:=rfl
theorem forms162:forms 162=some a162:=rfl
theorem forms163:forms 163=some a163:=rfl
theorem forms164:forms 164=some a164:=rfl
theorem forms165:forms 165=some a165:=rfl
theorem forms166:forms 166=some a166:=rfl
theorem forms176:forms 176=some a176:=rfl
theorem forms177:forms 177=some a177:=rfl
theorem forms178:forms 178=some a178:=rfl
theorem forms179:forms 179=some a179:=rfl
theorem forms180:forms 180=some a180:=rfl
theorem forms181:forms 181=some a181:=rfl
theorem forms182:forms 182=some a182:=rfl
theorem forms183:forms 183=some a183:=rfl
theorem forms184:forms 184=some a184:=rfl
theorem forms185:forms 185=some a185:=rfl
theorem forms187:forms 187=some a187:=rfl
theorem forms197:forms 197=some a197:=rfl
theorem forms198:forms 198=some a198:=rfl
theorem forms199:forms 199=some a199:=rfl
theorem forms200:forms 200=some a200:=rfl
theorem forms201:forms 201=some a201:=rfl
theorem forms202:forms 202=some a202:=rfl
theorem forms203:forms 203=some a203:=rfl
theorem forms204:forms 204=some a204:=rfl
theorem forms205:forms 205=some a205:=rfl
theorem forms206:forms 206=some a206:=rfl
theorem forms207:forms 207=some a207:=rfl
theorem forms208:forms 208=some a208:=rfl
theorem forms209:forms 209=some a209:=rfl
theorem forms210:forms 210=some a210:=rfl
theorem forms211:forms 211=some a211:=rfl
theorem forms212:forms 212=some a212:=rfl
theorem forms213:forms 213=some a213:=rfl
theorem forms214:forms 214=some a214:=rfl
theorem forms215:forms 215=some a215:=rfl
theorem forms216:forms 216=some a216:=rfl
theorem forms217:forms 217=some a217:=rfl
theorem forms218:forms 218=some a218:=rfl
theorem forms219:forms 219=some a219:=rfl
theorem forms222:forms 222=some a222:=rfl
theorem forms226:forms 226=some a226:=rfl
theorem forms227:forms 227=some a227:=rfl
theorem forms228:forms 228=some a228:=rfl
theorem forms229:forms 229=some a229:=rfl
theorem forms230:forms 230=some a230:=rfl
theorem forms234:forms 234=some a234:=rfl
theorem forms235:forms 235=some a235:=rfl
theorem forms236:forms 236=some a236:=rfl
theorem forms237:forms 237=some a237:=rfl
theorem forms238:forms 238=some a238:=rfl
theorem forms239:forms 239=some a239:=rfl
theorem forms240:forms 240=some a240:=rfl
theorem forms241:forms 241=some a241:=rfl
theorem forms242:forms 242=some a242:=rfl
theorem forms243:forms 243=some a243:=rfl
theorem forms244:forms 244=some a244:=rfl
theorem forms245:forms 245=some a245:=rfl
theorem forms246:forms 246=some a246:=rfl
theorem forms248:forms 248=some a248:=rfl
theorem forms249:forms 249=some a249:=rfl
theorem forms250:forms 250=some a250:=rfl
theorem forms251:forms 251=some a251:=rfl
theorem forms252:forms 252=some a252:=rfl
theorem forms253:forms 253=some a253:=rfl
theorem forms255:forms 255=some a255:=rfl
theorem forms256:forms 256=some a256:=rfl
theorem forms257:forms 257=some a257:=rfl
theorem forms258:forms 258=some a258:=rfl
theorem hext:ExtOk Tryz.prog ext:=.one fun args w=> run_callFunc_extern Tryz.func146 (by kernel_rfl) (by kernel_rfl) (by kernel_rfl) (by kernel_rfl) args w
theorem hmix:Tryz.prog.follows .mixedOrders=true:=by kernel_rfl
end YtapbabkndhaemaaGreat
end Go.Proofs
