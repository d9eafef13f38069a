/-
  THE FUNCTIONS of this seat in their plain form, and that each is the loaded one's.
-/
import Derived.Test.YtnemoimbeefngaaGreatPF1

set_option maxHeartbeats 32000000
set_option maxRecDepth 100000
namespace Go.Proofs
namespace YtnemoimbeefngaaGreat
open Go.Abs
def b104:AC:=
 (zS [zK 6 (.int .i64 20)]
 (zS [zM 10 6,zK 7 (.int .i64 0),zM 8 10]
 (.seq (.block 0 (.loop (.seq (zS [zM 11 8,zM 12 1,zB 13 .leq 11 12]
  (.cond (.t 13) .skip
  (.exit 0)))
  (.block 1 (zS [zM 14 0,zM 15 7,zM 16 8,zM 17 2,zC 18 (.f 154) [.t 14,.t 15,.t 16,.t 17]]
  (zS [zM 19 8,zM 7 19]
  (.reg [zM 20 8,zM 21 6,zB 22 .add 20 21,zM 8 22])))))))
 (zS [zM 23 0,zM 24 7,zM 25 1,zM 26 2,zC 27 (.f 154) [.t 23,.t 24,.t 25,.t 26]]
 (.block 2 (.loop (.seq (zS [zM 28 6,zM 29 1,zB 30 .lss 28 29]
  (.cond (.t 30) .skip
  (.exit 2)))
  (.block 3 (zS [zM 31 6,zO 32 (.bin .mul (.k (.int .i64 2)) (.t 31)),zK 7 (.int .i64 0),zM 8 32]
  (.seq (.block 4 (.loop (.seq (zS [zM 33 8,zM 34 1,zB 35 .leq 33 34]
   (.cond (.t 35) .skip
   (.exit 4)))
   (.block 5 (zS [zM 36 0,zM 37 7,zM 38 7,zM 39 6,zB 40 .add 38 39,zM 41 8,zM 42 2,zC 43 (.f 155) [.t 36,.t 37,.t 40,.t 41,.t 42]]
   (zS [zM 44 8,zM 7 44]
   (.reg [zM 45 8,zM 46 6,zO 47 (.bin .mul (.k (.int .i64 2)) (.t 46)),zB 48 .add 45 47,zM 8 48])))))))
  (.seq (zS [zM 49 7,zM 50 6,zB 51 .add 49 50,zM 9 51]
  (zS [zM 52 9,zM 53 1,zB 54 .lss 52 53]
  (.cond (.t 54) (.reg [zM 55 0,zM 56 7,zM 57 9,zM 58 1,zM 59 2,zC 60 (.f 155) [.t 55,.t 56,.t 57,.t 58,.t 59]])
  .skip)))
  (.reg [zM 61 6,zO 62 (.bin .mul (.t 61) (.k (.int .i64 2))),zM 6 62]))))))))))))
def a104:AF:=⟨63,[],.code b104,none⟩
def b105:AC:=
 (zS [zK 2 (.bool false)]
 (zS [zM 3 0,zM 4 0,zB 5 .neq 3 4,zM 2 5]
 .ret))
def a105:AF:=⟨6,[.t 2],.code b105,none⟩
def b106:AC:=
 (zS [zK 8 (.bool true)]
 (zS [zK 9 (.bool true)]
 (.block 0 (.loop (.block 1 (zS [zM 19 2,zM 20 1,zB 21 .sub 19 20,zM 10 21]
  (.seq (zS [zM 22 10,zO 23 (.bin .leq (.t 22) (.k (.int .i64 12)))]
  (.cond (.t 23) (zS [zM 24 0,zM 25 1,zM 26 2,zC 27 (.f 156) [.t 24,.t 25,.t 26]]
  .ret)
  .skip))
  (.seq (zS [zM 28 3,zO 29 (.bin .eql (.t 28) (.k (.int .i64 0)))]
  (.cond (.t 29) (zS [zM 30 0,zM 31 1,zM 32 2,zC 33 (.f 157) [.t 30,.t 31,.t 32]]
  .ret)
  .skip))
  (.seq (zS [zM 34 8,zO 35 (.un .not (.t 34))]
  (.cond (.t 35) (zS [zM 36 0,zM 37 1,zM 38 2,zC 39 (.f 158) [.t 36,.t 37,.t 38]]
  (.reg [zM 40 3,zO 41 (.bin .sub (.t 40) (.k (.int .i64 1))),zM 3 41]))
  .skip))
  (zS [zM 43 0,zM 44 1,zM 45 2,zC 46 (.f 159) [.t 43,.t 44,.t 45],zM 42 46,zO 47 (.extract (.t 42) 0),zO 48 (.extract (.t 42) 1),zM 11 47,zM 12 48]
  (.seq (zS [zM 49 12,zO 50 (.bin .eql (.t 49) (.k (.int .i64 2)))]
  (.cond (.t 50) (zS [zM 51 0,zM 52 1,zM 53 2,zC 54 (.f 160) [.t 51,.t 52,.t 53]]
  (zS [zM 55 2,zO 56 (.bin .sub (.t 55) (.k (.int .i64 1))),zM 57 11,zM 58 1,zB 59 .sub 57 58,zB 60 .sub 56 59,zM 11 60]
  (.reg [zK 12 (.int .i64 1)])))
  .skip))
  (.seq (zS [zM 61 8,zM 62 61,zV 63 9 62 true,zO 64 (.pick (.t 62) (.t 63) (.k (.bool false))),zM 65 64,zV 66 12 65 true,zG 67 (.bin .eql (.t 66) (.k (.int .i64 1))) 65 true,zO 68 (.pick (.t 65) (.t 67) (.k (.bool false)))]
  (.cond (.t 68) (zS [zM 69 0,zM 70 1,zM 71 2,zC 72 (.f 161) [.t 69,.t 70,.t 71]]
  (.cond (.t 72) .ret
  .skip))
  .skip))
  (.seq (.seq (.dreg (zQ (zM 73 1) (zQ (zO 74 (.bin .gtr (.t 73) (.k (.int .i64 0)))) (zQ (zM 75 74) (zQ (zV 76 0 75 true) (zQ (zV 77 1 75 true) (zQ (zG 78 (.bin .sub (.t 77) (.k (.int .i64 1))) 75 true) (zQ (zG 79 (.iaddrS 1 (.t 76) (.t 78)) 75 true) (zQ (zG 80 (.load (.t 79)) 75 true) (zQ (zV 81 0 75 true) (zQ (zV 82 11 75 true) (zQ (zG 83 (.iaddrS 1 (.t 81) (.t 82)) 75 true) (zQ (zG 84 (.load (.t 83)) 75 true) (.loud ⟨some 85,(.call (.f 162) [.t 80,.t 84]),(some (75,true))⟩ [] (zQ (zG 86 (.un .not (.t 85)) 75 true) (zQ (zO 87 (.pick (.t 75) (.t 86) (.k (.bool false)))) .nil))))))))))))))))
  (.cond (.t 87) (zS [zM 88 0,zM 89 1,zM 90 2,zM 91 11,zC 92 (.f 163) [.t 88,.t 89,.t 90,.t 91],zM 13 92]
  (zS [zM 93 13,zM 1 93]
  (.exit 1)))
  .skip))
  (zS [zM 95 0,zM 96 1,zM 97 2,zM 98 11,zC 99 (.f 164) [.t 95,.t 96,.t 97,.t 98],zM 94 99,zO 100 (.extract (.t 94) 0),zO 101 (.extract (.t 94) 1),zM 14 100,zM 15 101]
  (zS [zM 102 15,zM 9 102]
  (zS [zM 103 14,zM 104 1,zB 105 .sub 103 104,zM 106 2,zM 107 14,zB 108 .sub 106 107,zM 16 105,zM 17 108]
  (zS [zM 109 10,zO 110 (.bin .quo (.t 109) (.k (.int .i64 8))),zM 18 110]
  (zS [zM 111 16,zM 112 17,zB 113 .lss 111 112]
  (.cond (.t 113) (zS [zM 114 16,zM 115 18,zB 116 .geq 114 115,zM 8 116]
  (zS [zM 117 0,zM 118 1,zM 119 14,zM 120 3,zC 121 (.f 106) [.t 117,.t 118,.t 119,.t 120]]
  (.reg [zM 122 14,zO 123 (.bin .add (.t 122) (.k (.int .i64 1))),zM 1 123])))
  (zS [zM 124 17,zM 125 18,zB 126 .geq 124 125,zM 8 126]
  (zS [zM 127 0,zM 128 14,zO 129 (.bin .add (.t 128) (.k (.int .i64 1))),zM 130 2,zM 131 3,zC 132 (.f 106) [.t 127,.t 129,.t 130,.t 131]]
  (.reg [zM 133 14,zM 2 133]))))))))))))))))))))))
def a106:AF:=⟨134,[],.code b106,none⟩
def b107:AC:=
 (zS [zK 2 (.int .i64 0)]
 (.seq (.cond (.k (.bool false)) (zS [zM 3 0,zO 4 (.conv (.int .u32) (.t 3)),zC 5 (.f 165) [.t 4],zM 2 5]
 .ret)
 .skip)
 (zS [zM 6 0,zC 7 (.f 166) [.t 6],zM 2 7]
 .ret)))
def a107:AF:=⟨8,[.t 2],.code b107,none⟩
def b111:AC:=
 (zS [zK 2 (.slice none 0 0)]
 (zS [zK 3 (.slice none 0 0)]
 (.seq (zS [zK 4 (.int .i64 0)]
 (.block 0 (.loop (.seq (zS [zM 7 4,zO 8 (.bin .lss (.t 7) (.k (.int .i64 12)))]
  (.cond (.t 8) .skip
  (.exit 0)))
  (.seq (.block 1 (zS [zM 12 0,zM 13 4,zC 14 (.f 167) [.t 12,.t 13],zM 11 14,zO 15 (.extract (.t 11) 0),zO 16 (.extract (.t 11) 1),zM 5 15,zM 6 16]
  (zS [zM 17 6]
  (.cond (.t 17) (.reg [zM 18 3,zM 19 4,zM 20 5,zO 21 (.build [(.int .i64 0),(.int .u64 0)] [(0,1,(.t 19)),(1,1,(.t 20))]),zO 22 (.bslice 157 [(.int .i64 0),(.int .u64 0)] 1 [(0,2,(.t 21))]),zO 23 (.append 157 2 16 (.t 18) (.t 22)),zM 3 23])
  .skip))))
  (.reg [zM 9 4,zO 10 (.bin .add (.t 9) (.k (.int .i64 1))),zM 4 10]))))))
 (zS [zM 24 3,zM 2 24]
 .ret))))
def a111:AF:=⟨25,[.t 2],.code b111,none⟩
def b119:AC:=
 (zS [zK 0 (.pointer none)]
 (zS [zO 1 (.build [(.bool false),(.bool false),(.bool false),(.bool false),(.bool false),(.bool false),(.bool false),(.bool false),(.bool false),(.bool false),(.bool false),(.bool false),(.int .u64 0),(.int .u64 0),(.int .u64 0),(.int .u64 0),(.int .u64 0),(.int .u64 0),(.int .u64 0),(.int .u64 0),(.int .u64 0),(.int .u64 0),(.int .u64 0),(.int .u64 0)] []),zO 2 (.bslice 214 [(.bool false),(.bool false),(.bool false),(.bool false),(.bool false),(.bool false),(.bool false),(.bool false),(.bool false),(.bool false),(.bool false),(.bool false),(.int .u64 0),(.int .u64 0),(.int .u64 0),(.int .u64 0),(.int .u64 0),(.int .u64 0),(.int .u64 0),(.int .u64 0),(.int .u64 0),(.int .u64 0),(.int .u64 0),(.int .u64 0)] 1 [(0,24,(.t 1))]),zO 3 (.build [(.slice none 0 0)] [(0,1,(.t 2))]),zO 4 (.box 173 (.t 3)),zM 0 4]
 .ret))
def a119:AF:=⟨5,[.t 0],.code b119,none⟩
def b128:AB:=
 (.thn (.reg [zO 2 (.alloc 26 [(.int .i64 0)])])
 (.dfr [⟨(some 3),(.op (.mkfunc 183 [] [(.t 2)])),none⟩] (.t 3)
 (zS [zM 4 0,zC 5 (.t 4) []]
 (zS [zN (.store 1 (.t 2) (.k (.int .i64 0)))]
 .ret))))
def a128:AF:=⟨6,[(.c 2 false 1)],b128,none⟩
def b129:AC:=
 (zS [zL 2 0,zO 3 (.eq true .ptr (.t 2) (.k (.pointer none))),zC 4 (.f 130) [.t 3,(.k (.int .i64 1))]]
 (zS [zL 5 0,zU 6 5,zF 7 0 6,zL 8 7,zO 9 (.eq false .ptr (.t 8) (.k (.pointer none))),zC 10 (.f 130) [.t 9,(.k (.int .i64 7))]]
 (.reg [zL 11 0,zU 12 11,zF 13 1 12,zL 14 13,zT 1 1 14])))
def a129:AF:=⟨15,[],.code b129,none⟩
def b130:AC:=
 (zS [zM 4 0,zO 5 (.un .not (.t 4))]
 (.cond (.t 5) (.reg [zM 6 1,zO 7 (.build [(.int .i64 0)] [(0,1,(.t 6))]),zO 8 (.mkiface 218 (.t 7)),⟨none,(.panic (.t 8)),none⟩])
 .skip))
def a130:AF:=⟨9,[],.code b130,none⟩
def b131:AC:=
 (zS [zK 4 (.pointer none)]
 (zS [zM 5 1,zM 6 0,zO 7 (.build [(.slice none 0 0),(.pointer none)] [(0,1,(.t 5)),(1,1,(.t 6))]),zO 8 (.box 220 (.t 7)),zM 4 8]
 .ret))
def a131:AF:=⟨9,[.t 4],.code b131,none⟩
def b132:AC:=
 (zS [zK 2 (.int .i64 0)]
 (.seq (zS [zM 3 0,zO 4 (.eq false .ptr (.t 3) (.k (.pointer none)))]
 (.cond (.t 4) (zS [zK 2 (.int .i64 0)]
 .ret)
 .skip))
 (zS [zM 5 0,zU 6 5,zF 7 1 6,zL 8 7,zM 2 8]
 .ret)))
def a132:AF:=⟨9,[.t 2],.code b132,none⟩
def b133:AC:=
 (zS [zK 4 (.bool false)]
 (zS [zM 5 0,zC 6 (.f 184) [.t 5],zM 7 1,zC 8 (.f 184) [.t 7],zB 9 .eql 6 8,zM 4 9]
 .ret))
def a133:AF:=⟨10,[.t 4],.code b133,none⟩
def b134:AC:=
 (zS [zK 4 (.bool false)]
 (zS [zM 5 0,zO 6 (.eq true .ptr (.t 5) (.k (.pointer none))),zM 7 6,zV 8 0 7 true,zG 9 (.nilchk (.t 8)) 7 true,zG 10 (.faddr 1 (.t 9)) 7 true,zG 11 (.load (.t 10)) 7 true,zV 12 1 7 true,zG 13 (.bin .eql (.t 11) (.t 12)) 7 true,zO 14 (.pick (.t 7) (.t 13) (.k (.bool false))),zM 4 14]
 .ret))
def a134:AF:=⟨15,[.t 4],.code b134,none⟩
def b135:AC:=
 (zS [zK 4 (.int .i64 0)]
 (zS [zM 5 0,zM 6 1,zC 7 (.f 185) [.t 5,.t 6,.f 186],zM 4 7]
 .ret))
def a135:AF:=⟨8,[.t 4],.code b135,none⟩
def b136:AC:=
 (zS [zO 4 (.alloc 63 [(.bool false),(.int .u64 0),(.bool false),(.int .i64 0),(.bool false),(.int .u8 0),(.int .i64 0)])]
 (zS [zM 5 0,zM 6 0,zU 7 6,zF 8 2 7,zL 9 8,zM 10 1,zO 11 (.lookup false (.pointer none) false (.t 9) (.t 10)),zU 12 11,zF 13 2 12,zL 14 13,zO 15 (.build [(.int .u8 0),(.int .i64 0),(.int .i64 0),(.int .u64 0)] [(0,1,(.k (.int .u8 8))),(1,1,(.t 14))]),zC 16 (.f 83) [.t 5,.t 15]]
 (zS [zM 17 0,zU 18 17,zF 19 2 18,zL 20 19,zM 21 1,zN (.delete false (.t 20) (.t 21))]
 (zS [zO 22 (.build [(.bool false),(.int .u64 0),(.bool false),(.int .i64 0),(.bool false),(.int .u8 0),(.int .i64 0)] [(0,1,(.k (.bool true))),(4,1,(.k (.bool true)))]),zT 7 4 22]
 .ret))))
def a136:AF:=⟨23,[(.c 4 true 7)],.code b136,none⟩
def b137:AC:=
 (zS [zO 3 (.box 85 (.t 0)),zO 4 (.box 3 (.t 1)),zO 5 (.box 38 (.t 2)),zK 6 (.int .i64 0)]
 (zS [zO 7 (.mkfunc 187 [] [.t 3,.t 4,.t 5]),zC 8 (.f 128) [.t 7],zM 6 8]
 .ret))
def a137:AF:=⟨9,[.t 6],.code b137,none⟩
def b138:AC:=
 (zS [zO 4 (.alloc 63 [(.bool false),(.int .u64 0),(.bool false),(.int .i64 0),(.bool false),(.int .u8 0),(.int .i64 0)])]
 (zS [zM 5 0,zM 6 0,zM 7 1,zU 8 5,zF 9 7 8,zN (.store 1 (.t 9) (.k (.int .i64 4))),zU 10 6,zF 11 8 10,zT 1 11 7]
 (zS [zO 12 (.build [(.bool false),(.int .u64 0),(.bool false),(.int .i64 0),(.bool false),(.int .u8 0),(.int .i64 0)] []),zT 7 4 12]
 .ret)))
def a138:AF:=⟨13,[(.c 4 true 7)],.code b138,none⟩
def b139:AC:=
 (zS [zK 4 (.int .i64 0)]
 (zS [zM 5 0,zM 6 1,zC 7 (.f 185) [.t 5,.t 6,.f 188],zM 4 7]
 .ret))
def a139:AF:=⟨8,[.t 4],.code b139,none⟩
def b140:AC:=
 (zS [zO 1 (.box 164 (.t 0)),zK 2 .nilFunc]
 (zS [zO 3 (.mkfunc 189 [] [.t 1]),zM 2 3]
 .ret))
def a140:AF:=⟨4,[.t 2],.code b140,none⟩
def b141:AC:=
 (zS [zK 4 (.int .u64 0),zK 5 (.bool false)]
 (.seq (zS [zM 8 0,zE 9 8,zK 10 (.int .i64 0)]
 (.block 0 (.loop (zS [zB 11 .lss 10 9]
  (.seq (.cond (.t 11) .skip
  (.exit 0))
  (.seq (.block 1 (zS [zI 12 2 8 10,zO 13 (.loadN 2 (.t 12)),zO 7 (.alloc 157 [(.int .i64 0),(.int .u64 0)]),zT 2 7 13]
  (zS [zF 14 0 7,zL 15 14,zM 16 1,zB 17 .eql 15 16]
  (.cond (.t 17) (zS [zF 18 1 7,zL 19 18,zM 4 19,zK 5 (.bool true)]
  .ret)
  .skip))))
  (.reg [zO 20 (.bin .add (.t 10) (.k (.int .i64 1))),zM 10 20])))))))
 (zS [zK 4 (.int .u64 0),zK 5 (.bool false)]
 .ret)))
def a141:AF:=⟨21,[.t 4,.t 5],.code b141,none⟩
def b142:AC:=
 (zS [zO 4 (.alloc 63 [(.bool false),(.int .u64 0),(.bool false),(.int .i64 0),(.bool false),(.int .u8 0),(.int .i64 0)])]
 (zS [zM 5 0,zO 6 (.build [(.int .u8 0),(.int .i64 0),(.int .u64 0)] []),zU 7 5,zF 8 4 7,zT 3 8 6]
 (zS [zM 9 1,zO 10 (.build [(.bool false),(.int .u64 0),(.bool false),(.int .i64 0),(.bool false),(.int .u8 0),(.int .i64 0)] [(0,1,(.k (.bool true))),(1,1,(.t 9))]),zT 7 4 10]
 .ret)))
def a142:AF:=⟨11,[(.c 4 true 7)],.code b142,none⟩
def b143:AC:=
 (zS [zO 3 (.box 155 (.t 1)),zK 4 (.int .i64 0)]
 (.seq (.block 0 (zS [zM 8 0,zO 9 (.eq false .ptr (.t 8) (.k (.pointer none))),zM 7 9]
 (.cond (.t 7) (zS [zK 4 (.int .i64 1)]
 .ret)
 (zS [zF 11 0 3,zL 12 11,zO 13 (.bin .lss (.t 12) (.k (.int .i64 0))),zM 14 13,zG 15 (.faddr 0 (.t 3)) 14 false,zG 16 (.load (.t 15)) 14 false,zG 17 (.bin .geq (.t 16) (.k (.int .i64 12))) 14 false,zO 18 (.pick (.t 14) (.k (.bool true)) (.t 17)),zM 19 18,zG 20 (.faddr 2 (.t 3)) 19 false,zG 21 (.load (.t 20)) 19 false,zG 22 (.bin .gtr (.t 21) (.k (.int .u64 1099511627776))) 19 false,zO 23 (.pick (.t 19) (.k (.bool true)) (.t 22)),zM 10 23]
 (.cond (.t 10) (zS [zK 4 (.int .i64 2)]
 .ret)
 (zS [zF 25 1 3,zL 26 25,zC 27 (.f 96) [.t 26],zO 28 (.un .not (.t 27)),zM 24 28]
 (.cond (.t 24) (zS [zK 4 (.int .i64 3)]
 .ret)
 .skip)))))))
 (.seq (.seq (.dreg (zQ (zM 30 0) (zQ (zU 31 30) (zQ (zF 32 1 31) (zQ (zL 33 32) (zQ (zF 34 0 3) (zQ (zL 35 34) (zQ (zO 36 (.lookup false (.agg #[(.int .i64 0),(.int .u64 0),(.int .u64 0)]) true (.t 33) (.t 35))) (zQ (zM 29 36) (zQ (zO 37 (.extract (.t 29) 0)) (zQ (zO 38 (.extract (.t 29) 1)) (.loud (zO 5 (.alloc 155 [(.int .i64 0),(.int .u64 0),(.int .u64 0)])) [zO 36 (.lookup false (.agg #[(.int .i64 0),(.int .u64 0),(.int .u64 0)]) true (.t 33) (.t 35)),zL 35 34,zL 33 32] (.loud (zT 3 5 37) [] (.loud (zM 6 38) [] .nil))))))))))))))
 (zS [zM 39 6]
 (.cond (.t 39) (zS [zK 4 (.int .i64 0)]
 .ret)
 .skip)))
 (.seq (zS [zM 40 0,zU 41 40,zF 42 0 41,zL 43 42,zE 44 43,zO 45 (.bin .geq (.t 44) (.k (.int .i64 8)))]
 (.cond (.t 45) (zS [zK 4 (.int .i64 4)]
 .ret)
 .skip))
 (.seq (.dreg (zQ (zM 46 0) (zQ (zM 47 0) (zQ (zU 48 47) (zQ (zF 49 0 48) (zQ (zL 50 49) (zQ (zF 51 0 3) (zQ (zL 52 51) (.loud (zO 53 (.bslice 3 [(.int .i64 0)] 1 [(0,1,(.t 52))])) [zL 50 49] (.loud (zO 54 (.append 3 1 8 (.t 50) (.t 53))) [] (zQ (zU 55 46) (zQ (zF 56 0 55) (.loud (zT 1 56 54) [] .nil)))))))))))))
 (.seq (.dreg (zQ (zM 57 0) (zQ (zU 58 57) (zQ (zF 59 1 58) (zQ (zL 60 59) (zQ (zF 61 0 3) (zQ (zL 62 61) (zQ (zO 63 (.loadN 3 (.t 3))) (.loud (zN (.mapupd false (.t 60) (.t 62) (.t 63))) [] .nil)))))))))
 (zS [zK 4 (.int .i64 0)]
 .ret)))))))
def a143:AF:=⟨64,[.t 4],.code b143,none⟩
def b144:AC:=
 (zS [zK 2 (.int .i64 0)]
 (.seq (.block 0 (zS [zM 4 0,zO 5 (.eq false .ptr (.t 4) (.k (.pointer none))),zM 3 5]
 (.cond (.t 3) (zS [zK 2 (.int .i64 1)]
 .ret)
 (zS [zM 7 0,zU 8 7,zF 9 1 8,zL 10 9,zO 11 (.bin .geq (.t 10) (.k (.int .i64 4))),zM 6 11]
 (.cond (.t 6) (zS [zK 2 (.int .i64 4)]
 .ret)
 .skip)))))
 (zS [zM 12 0,zM 13 0,zU 14 13,zF 15 0 14,zL 16 15,zC 17 (.f 131) [.t 16,(.k (.slice none 0 0))],zU 18 12,zF 19 0 18,zT 1 19 17]
 (zS [zM 20 0,zU 21 20,zF 22 1 21,zL 23 22,zO 24 (.bin .add (.t 23) (.k (.int .i64 1))),zU 25 20,zF 26 1 25,zT 1 26 24]
 (zS [zK 2 (.int .i64 0)]
 .ret)))))
def a144:AF:=⟨27,[.t 2],.code b144,none⟩
def b145:AC:=
 (zS [zK 2 (.int .i64 0)]
 (zS [zM 6 0,zC 7 (.f 190) [.t 6],zM 5 7,zO 8 (.extract (.t 5) 0),zO 9 (.extract (.t 5) 1),zM 3 8,zM 4 9]
 (zS [zM 10 4,zM 2 10]
 .ret)))
def a145:AF:=⟨11,[.t 2],.code b145,none⟩
def b146:AC:=
 (zS [zK 2 (.int .i64 0)]
 (zS [zM 9 0,zC 10 (.f 190) [.t 9],zM 8 10,zO 11 (.extract (.t 8) 0),zO 12 (.extract (.t 8) 1),zM 3 11,zM 4 12]
 (.seq (zS [zM 13 4,zO 14 (.bin .neq (.t 13) (.k (.int .i64 0)))]
 (.cond (.t 14) (zS [zM 15 4,zM 2 15]
 .ret)
 .skip))
 (zS [zM 16 0,zU 17 16,zF 18 0 17,zL 19 18,zU 20 19,zF 21 0 20,zL 22 21,zM 5 22]
 (.seq (zS [zM 23 3,zE 24 23,zK 25 (.int .i64 0)]
 (.block 0 (.loop (zS [zB 26 .lss 25 24]
  (.seq (.cond (.t 26) .skip
  (.exit 0))
  (.seq (.block 1 (zS [zI 27 2 23 25,zO 28 (.loadN 2 (.t 27)),zO 7 (.alloc 157 [(.int .i64 0),(.int .u64 0)]),zT 2 7 28]
  (.reg [zM 29 5,zO 30 (.loadN 2 (.t 7)),zC 31 (.f 191) [.t 29,.t 30],zM 5 31])))
  (.reg [zO 32 (.bin .add (.t 25) (.k (.int .i64 1))),zM 25 32])))))))
 (zS [zM 33 0,zM 34 0,zU 35 34,zF 36 0 35,zL 37 36,zU 38 37,zF 39 1 38,zL 40 39,zM 41 5,zC 42 (.f 131) [.t 40,.t 41],zU 43 33,zF 44 0 43,zT 1 44 42]
 (zS [zK 2 (.int .i64 0)]
 .ret)))))))
def a146:AF:=⟨45,[.t 2],.code b146,none⟩
def b147:AC:=
 (zS [zK 6 (.int .i64 0)]
 (.seq (.block 0 (zS [zM 10 0,zO 11 (.eq false .ptr (.t 10) (.k (.pointer none))),zM 9 11]
 (.cond (.t 9) (zS [zK 6 (.int .i64 1)]
 .ret)
 (zS [zM 13 1,zO 14 (.bin .lss (.t 13) (.k (.int .i64 0))),zM 15 14,zV 16 1 15 false,zG 17 (.bin .geq (.t 16) (.k (.int .i64 12))) 15 false,zO 18 (.pick (.t 15) (.k (.bool true)) (.t 17)),zM 12 18]
 (.cond (.t 12) (zS [zK 6 (.int .i64 2)]
 .ret)
 (zS [zM 20 2,zC 21 (.f 96) [.t 20],zO 22 (.un .not (.t 21)),zM 19 22]
 (.cond (.t 19) (zS [zK 6 (.int .i64 3)]
 .ret)
 .skip)))))))
 (.seq (zS [zM 24 0,zU 25 24,zF 26 0 25,zL 27 26,zU 28 27,zF 29 0 28,zL 30 29,zM 31 1,zC 32 (.f 141) [.t 30,.t 31],zM 23 32,zO 33 (.extract (.t 23) 0),zO 34 (.extract (.t 23) 1),zM 7 33,zM 8 34]
 (zS [zM 35 8,zO 36 (.un .not (.t 35)),zM 37 36,zV 38 0 37 true,⟨some 39,(.call (.f 192) [.t 38]),(some (37,true))⟩,zG 40 (.bin .geq (.t 39) (.k (.int .i64 16))) 37 true,zO 41 (.pick (.t 37) (.t 40) (.k (.bool false)))]
 (.cond (.t 41) (zS [zK 6 (.int .i64 4)]
 .ret)
 .skip)))
 (.seq (.dreg (zQ (zM 42 0) (zQ (zM 43 0) (zQ (zU 44 43) (zQ (zF 45 0 44) (zQ (zL 46 45) (zQ (zU 47 46) (zQ (zF 48 1 47) (zQ (zL 49 48) (zQ (zM 50 0) (zQ (zU 51 50) (zQ (zF 52 0 51) (zQ (zL 53 52) (zQ (zU 54 53) (zQ (zF 55 0 54) (zQ (zL 56 55) (zQ (zM 57 1) (zQ (zM 58 2) (zQ (zO 59 (.build [(.int .i64 0),(.int .u64 0)] [(0,1,(.t 57)),(1,1,(.t 58))])) (.loud (zC 60 (.f 191) [.t 56,.t 59]) [zL 49 48,zL 46 45] (.loud (zC 61 (.f 131) [.t 49,.t 60]) [] (zQ (zU 62 42) (zQ (zF 63 0 62) (.loud (zT 1 63 61) [] .nil))))))))))))))))))))))))
 (zS [zK 6 (.int .i64 0)]
 .ret)))))
def a147:AF:=⟨64,[.t 6],.code b147,none⟩
def b150:AC:=
 (zS [zK 4 (.bool false)]
 (zS [zM 11 0,zM 12 1,zI 13 4 11 12,zO 14 (.loadN 4 (.t 13)),zO 5 (.alloc 84 [(.int .u8 0),(.int .i64 0),(.int .i64 0),(.int .u64 0)]),zT 4 5 14]
 (.seq (zS [zF 15 1 5,zL 16 15,zO 17 (.bin .lss (.t 16) (.k (.int .i64 0))),zM 18 17,zG 19 (.faddr 1 (.t 5)) 18 false,zG 20 (.load (.t 19)) 18 false,zG 21 (.bin .geq (.t 20) (.k (.int .i64 64))) 18 false,zO 22 (.pick (.t 18) (.k (.bool true)) (.t 21))]
 (.cond (.t 22) (zS [zK 4 (.bool false)]
 .ret)
 .skip))
 (zS [zF 23 2 5,zL 24 23,zO 25 (.bin .eql (.t 24) (.k (.int .i64 0))),zM 26 25,zG 27 (.faddr 3 (.t 5)) 26 true,zG 28 (.load (.t 27)) 26 true,zG 29 (.bin .eql (.t 28) (.k (.int .u64 0))) 26 true,zO 30 (.pick (.t 26) (.t 29) (.k (.bool false))),zM 6 30]
 (zS [zM 31 0,zM 32 1,zF 33 1 5,zL 34 33,zC 35 (.f 101) [.t 31,.t 32,.t 34,(.k (.int .u8 1))],zM 7 35]
 (zS [zM 36 0,zM 37 1,zF 38 1 5,zL 39 38,zC 40 (.f 101) [.t 36,.t 37,.t 39,(.k (.int .u8 7))],zM 8 40]
 (zS [zM 41 0,zM 42 1,zF 43 1 5,zL 44 43,zC 45 (.f 101) [.t 41,.t 42,.t 44,(.k (.int .u8 8))],zM 46 45,zV 47 0 46 false,zV 48 1 46 false,zG 49 (.faddr 1 (.t 5)) 46 false,zG 50 (.load (.t 49)) 46 false,⟨some 51,(.call (.f 101) [.t 47,.t 48,.t 50,(.k (.int .u8 9))]),(some (46,false))⟩,zO 52 (.pick (.t 46) (.k (.bool true)) (.t 51)),zM 9 52]
 (.seq (zS [zF 53 0 5,zL 54 53,zO 55 (.bin .eql (.t 54) (.k (.int .u8 1)))]
 (.cond (.t 55) (zS [zM 56 6,zM 57 56,zV 58 7 57 true,zG 59 (.un .not (.t 58)) 57 true,zO 60 (.pick (.t 57) (.t 59) (.k (.bool false))),zM 4 60]
 .ret)
 .skip))
 (.seq (zS [zM 61 7,zO 62 (.un .not (.t 61)),zM 63 62,zV 64 9 63 false,zO 65 (.pick (.t 63) (.k (.bool true)) (.t 64))]
 (.cond (.t 65) (zS [zK 4 (.bool false)]
 .ret)
 .skip))
 (zS [zM 66 0,zM 67 1,zF 68 1 5,zL 69 68,zC 70 (.f 193) [.t 66,.t 67,.t 69],zM 10 70]
 (.seq (zS [zF 71 0 5,zL 72 71]
 (.block 0 (zS [zO 74 (.bin .eql (.t 72) (.k (.int .u8 8))),zM 73 74]
 (.cond (.t 73) (zS [zM 75 6,zM 76 75,zV 77 8 76 true,zO 78 (.pick (.t 76) (.t 77) (.k (.bool false))),zM 4 78]
 .ret)
 (zS [zO 80 (.bin .eql (.t 72) (.k (.int .u8 9))),zM 79 80]
 (.cond (.t 79) (zS [zM 81 6,zM 4 81]
 .ret)
 (zS [zO 83 (.bin .eql (.t 72) (.k (.int .u8 2))),zM 82 83]
 (.cond (.t 82) (zS [zM 84 8,zO 85 (.un .not (.t 84)),zM 86 85,zG 87 (.faddr 2 (.t 5)) 86 true,zG 88 (.load (.t 87)) 86 true,zG 89 (.bin .geq (.t 88) (.k (.int .i64 0))) 86 true,zO 90 (.pick (.t 86) (.t 89) (.k (.bool false))),zM 91 90,zG 92 (.faddr 2 (.t 5)) 91 true,zG 93 (.load (.t 92)) 91 true,zG 94 (.bin .lss (.t 93) (.k (.int .i64 12))) 91 true,zO 95 (.pick (.t 91) (.t 94) (.k (.bool false))),zM 96 95,zG 97 (.faddr 3 (.t 5)) 96 true,zG 98 (.load (.t 97)) 96 true,⟨some 99,(.call (.f 98) [.t 98]),(some (96,true))⟩,zO 100 (.pick (.t 96) (.t 99) (.k (.bool false))),zM 4 100]
 .ret)
 (zS [zO 102 (.bin .eql (.t 72) (.k (.int .u8 3))),zM 101 102]
 (.cond (.t 101) (zS [zM 103 8,zO 104 (.un .not (.t 103)),zM 105 104,zV 106 10 105 true,zG 107 (.loadN 4 (.t 5)) 105 true,⟨some 108,(.call (.f 194) [.t 106,.t 107]),(some (105,true))⟩,zG 109 (.bin .eql (.t 108) (.k (.int .i64 0))) 105 true,zO 110 (.pick (.t 105) (.t 109) (.k (.bool false))),zM 4 110]
 .ret)
 (.seq (zS [zO 112 (.bin .eql (.t 72) (.k (.int .u8 4))),zM 111 112]
 (.cond (.t 111) .skip
 (zS [zO 113 (.bin .eql (.t 72) (.k (.int .u8 5))),zM 111 113]
 (.cond (.t 111) .skip
 (.reg [zO 114 (.bin .eql (.t 72) (.k (.int .u8 6))),zM 111 114])))))
 (.cond (.t 111) (zS [zM 115 8,zO 116 (.un .not (.t 115)),zM 117 116,zV 118 6 117 true,zO 119 (.pick (.t 117) (.t 118) (.k (.bool false))),zM 120 119,zV 121 10 120 true,zG 122 (.loadN 4 (.t 5)) 120 true,⟨some 123,(.call (.f 194) [.t 121,.t 122]),(some (120,true))⟩,zG 124 (.bin .eql (.t 123) (.k (.int .i64 0))) 120 true,zO 125 (.pick (.t 120) (.t 124) (.k (.bool false))),zM 4 125]
 .ret)
 (zS [zO 127 (.bin .eql (.t 72) (.k (.int .u8 7))),zM 126 127]
 (.cond (.t 126) (zS [zM 128 8,zO 129 (.un .not (.t 128)),zM 130 129,zV 131 6 130 true,zO 132 (.pick (.t 130) (.t 131) (.k (.bool false))),zM 133 132,zV 134 10 133 true,⟨some 135,(.call (.f 169) [.t 134]),(some (133,true))⟩,zG 136 (.bin .eql (.t 135) (.k (.int .i64 0))) 133 true,zO 137 (.pick (.t 133) (.t 136) (.k (.bool false))),zM 4 137]
 .ret)
 .skip))))))))))))))
 (zS [zK 4 (.bool false)]
 .ret))))))))))))
def a150:AF:=⟨138,[.t 4],.code b150,none⟩
def b151:AC:=
 (zS [zK 4 (.slice none 0 0)]
 (zS [zK 5 (.slice none 0 0)]
 (.seq (zS [zK 6 (.int .i64 0)]
 (.block 0 (.loop (.seq (zS [zM 9 6,zM 10 0,zE 11 10,zB 12 .lss 9 11]
  (.cond (.t 12) .skip
  (.exit 0)))
  (.seq (.block 1 (.seq (zS [zM 15 0,zM 16 6,zI 17 4 15 16,zF 18 1 17,zL 19 18,zM 20 1,zB 21 .neq 19 20,zM 22 21,zV 23 0 22 false,zV 24 6 22 false,zG 25 (.iaddrS 4 (.t 23) (.t 24)) 22 false,zG 26 (.faddr 0 (.t 25)) 22 false,zG 27 (.load (.t 26)) 22 false,zG 28 (.bin .neq (.t 27) (.k (.int .u8 2))) 22 false,zO 29 (.pick (.t 22) (.k (.bool true)) (.t 28))]
  (.cond (.t 29) (.exit 1)
  .skip))
  (.seq (.dreg (zQ (zM 31 0) (zQ (zM 32 6) (zQ (zM 33 1) (zQ (zM 35 0) (zQ (zM 36 6) (zQ (zI 37 4 35 36) (zQ (zF 38 2 37) (zQ (zL 39 38) (.loud (zC 34 (.f 193) [.t 31,.t 32,.t 33]) [zL 39 38] (.loud (zC 40 (.f 167) [.t 34,.t 39]) [] (zQ (zM 30 40) (zQ (zO 41 (.extract (.t 30) 0)) (zQ (zO 42 (.extract (.t 30) 1)) (.loud (zM 7 41) [] (.loud (zM 8 42) [] .nil))))))))))))))))
  (zS [zM 43 8,zO 44 (.un .not (.t 43))]
  (.cond (.t 44) (.dreg (zQ (zM 45 5) (zQ (zM 46 0) (zQ (zM 47 6) (zQ (zI 48 4 46 47) (zQ (zF 49 2 48) (zQ (zL 50 49) (zQ (zM 51 0) (zQ (zM 52 6) (zQ (zI 53 4 51 52) (zQ (zF 54 3 53) (zQ (zL 55 54) (zQ (zO 56 (.build [(.int .i64 0),(.int .u64 0)] [(0,1,(.t 50)),(1,1,(.t 55))])) (.loud (zO 57 (.bslice 157 [(.int .i64 0),(.int .u64 0)] 1 [(0,2,(.t 56))])) [] (.loud (zO 58 (.append 157 2 16 (.t 45) (.t 57))) [] (.loud (zM 5 58) [] .nil))))))))))))))))
  .skip)))))
  (.reg [zM 13 6,zO 14 (.bin .add (.t 13) (.k (.int .i64 1))),zM 6 14]))))))
 (zS [zM 59 5,zM 4 59]
 .ret))))
def a151:AF:=⟨60,[.t 4],.code b151,none⟩
def b152:AC:=
 (zS [zK 4 (.slice none 0 0)]
 (zS [zM 5 0,zM 6 0,zE 7 6,zM 8 1,zC 9 (.f 193) [.t 5,.t 7,.t 8],zC 10 (.f 111) [.t 9],zM 4 10]
 .ret))
def a152:AF:=⟨11,[.t 4],.code b152,none⟩
def b153:AC:=
 (zS [zK 4 (.bool false)]
 (.seq (zS [zK 5 (.int .i64 0)]
 (.block 0 (.loop (.seq (zS [zM 8 5,zM 9 0,zE 10 9,zB 11 .lss 8 10]
  (.cond (.t 11) .skip
  (.exit 0)))
  (.seq (.block 1 (.seq (zS [zM 14 0,zM 15 5,zI 16 4 14 15,zF 17 1 16,zL 18 17,zM 19 1,zB 20 .neq 18 19,zM 21 20,zV 22 0 21 false,zV 23 5 21 false,zG 24 (.iaddrS 4 (.t 22) (.t 23)) 21 false,zG 25 (.faddr 0 (.t 24)) 21 false,zG 26 (.load (.t 25)) 21 false,zG 27 (.bin .neq (.t 26) (.k (.int .u8 2))) 21 false,zO 28 (.pick (.t 21) (.k (.bool true)) (.t 27))]
  (.cond (.t 28) (.exit 1)
  .skip))
  (.seq (.dreg (zQ (zM 30 0) (zQ (zM 31 5) (zQ (zM 32 1) (zQ (zM 34 0) (zQ (zM 35 5) (zQ (zI 36 4 34 35) (zQ (zF 37 2 36) (zQ (zL 38 37) (.loud (zC 33 (.f 193) [.t 30,.t 31,.t 32]) [zL 38 37] (.loud (zC 39 (.f 167) [.t 33,.t 38]) [] (zQ (zM 29 39) (zQ (zO 40 (.extract (.t 29) 0)) (zQ (zO 41 (.extract (.t 29) 1)) (.loud (zM 6 40) [] (.loud (zM 7 41) [] .nil))))))))))))))))
  (zS [zM 42 7,zM 43 42,zV 44 6 43 true,zV 45 0 43 true,zV 46 5 43 true,zG 47 (.iaddrS 4 (.t 45) (.t 46)) 43 true,zG 48 (.faddr 3 (.t 47)) 43 true,zG 49 (.load (.t 48)) 43 true,zG 50 (.bin .neq (.t 44) (.t 49)) 43 true,zO 51 (.pick (.t 43) (.t 50) (.k (.bool false)))]
  (.cond (.t 51) (zS [zK 4 (.bool false)]
  .ret)
  .skip)))))
  (.reg [zM 12 5,zO 13 (.bin .add (.t 12) (.k (.int .i64 1))),zM 5 13]))))))
 (zS [zK 4 (.bool true)]
 .ret)))
def a153:AF:=⟨52,[.t 4],.code b153,none⟩
def b154:AC:=
 (zS [zM 10 1,zO 11 (.bin .add (.t 10) (.k (.int .i64 1))),zM 8 11]
 (.block 0 (.loop (.seq (zS [zM 12 8,zM 13 2,zB 14 .lss 12 13]
  (.cond (.t 14) .skip
  (.exit 0)))
  (.seq (.block 1 (zS [zM 17 8,zM 9 17]
  (.block 2 (.loop (.seq (.seq (.dreg (zQ (zM 18 9) (zQ (zM 19 1) (zQ (zB 20 .gtr 18 19) (zQ (zM 21 20) (zQ (zV 22 3 21 true) (zQ (zV 23 0 21 true) (zQ (zV 24 9 21 true) (zQ (zG 25 (.iaddrS 1 (.t 23) (.t 24)) 21 true) (zQ (zG 26 (.load (.t 25)) 21 true) (zQ (zV 27 0 21 true) (zQ (zV 28 9 21 true) (zQ (zG 29 (.bin .sub (.t 28) (.k (.int .i64 1))) 21 true) (zQ (zG 30 (.iaddrS 1 (.t 27) (.t 29)) 21 true) (zQ (zG 31 (.load (.t 30)) 21 true) (.loud ⟨some 32,(.call (.t 22) [.t 26,.t 31]),(some (21,true))⟩ [] (zQ (zG 33 (.bin .lss (.t 32) (.k (.int .i64 0))) 21 true) (zQ (zO 34 (.pick (.t 21) (.t 33) (.k (.bool false)))) .nil))))))))))))))))))
   (.cond (.t 34) .skip
   (.exit 2)))
   (.seq (.block 3 (.dreg (zQ (zM 37 0) (zQ (zM 38 9) (zQ (zM 39 0) (zQ (zM 40 9) (zQ (zO 41 (.bin .sub (.t 40) (.k (.int .i64 1)))) (zQ (zM 42 0) (zQ (zM 43 9) (zQ (zO 44 (.bin .sub (.t 43) (.k (.int .i64 1)))) (zQ (zI 45 1 42 44) (zQ (zL 46 45) (zQ (zM 47 0) (zQ (zM 48 9) (zQ (zI 49 1 47 48) (zQ (zL 50 49) (zQ (zI 51 1 37 38) (.loud (zT 1 51 46) [] (zQ (zI 52 1 39 41) (.loud (zT 1 52 50) [] .nil))))))))))))))))))))
   (.reg [zM 35 9,zO 36 (.bin .sub (.t 35) (.k (.int .i64 1))),zM 9 36])))))))
  (.reg [zM 15 8,zO 16 (.bin .add (.t 15) (.k (.int .i64 1))),zM 8 16]))))))
def a154:AF:=⟨53,[],.code b154,none⟩
def b155:AC:=
 (.seq (zS [zM 25 2,zM 26 1,zB 27 .sub 25 26,zO 28 (.bin .eql (.t 27) (.k (.int .i64 1)))]
 (.cond (.t 28) (zS [zM 29 2,zM 10 29]
 (zS [zM 30 3,zM 11 30]
 (.seq (.block 0 (.loop (.seq (zS [zM 31 10,zM 32 11,zB 33 .lss 31 32]
  (.cond (.t 33) .skip
  (.exit 0)))
  (.block 1 (zS [zM 34 10,zM 35 11,zB 36 .add 34 35,zO 37 (.conv (.int .u64) (.t 36)),zO 38 (.bin .shr (.t 37) (.k (.int .u64 1))),zO 39 (.conv (.int .i64) (.t 38)),zM 12 39]
  (.seq (.dreg (zQ (zM 40 4) (zQ (zM 41 0) (zQ (zM 42 12) (zQ (zI 43 1 41 42) (zQ (zL 44 43) (zQ (zM 45 0) (zQ (zM 46 1) (zQ (zI 47 1 45 46) (zQ (zL 48 47) (.loud (zC 49 (.t 40) [.t 44,.t 48]) [] (zQ (zO 50 (.bin .lss (.t 49) (.k (.int .i64 0)))) .nil))))))))))))
  (.cond (.t 50) (.reg [zM 51 12,zO 52 (.bin .add (.t 51) (.k (.int .i64 1))),zM 10 52])
  (.reg [zM 53 12,zM 11 53]))))))))
 (.seq (zS [zM 54 1,zM 13 54]
 (.block 2 (.loop (.seq (zS [zM 55 13,zM 56 10,zO 57 (.bin .sub (.t 56) (.k (.int .i64 1))),zB 58 .lss 55 57]
  (.cond (.t 58) .skip
  (.exit 2)))
  (.seq (.block 3 (.dreg (zQ (zM 61 0) (zQ (zM 62 13) (zQ (zM 63 0) (zQ (zM 64 13) (zQ (zO 65 (.bin .add (.t 64) (.k (.int .i64 1)))) (zQ (zM 66 0) (zQ (zM 67 13) (zQ (zO 68 (.bin .add (.t 67) (.k (.int .i64 1)))) (zQ (zI 69 1 66 68) (zQ (zL 70 69) (zQ (zM 71 0) (zQ (zM 72 13) (zQ (zI 73 1 71 72) (zQ (zL 74 73) (zQ (zI 75 1 61 62) (.loud (zT 1 75 70) [] (zQ (zI 76 1 63 65) (.loud (zT 1 76 74) [] .nil))))))))))))))))))))
  (.reg [zM 59 13,zO 60 (.bin .add (.t 59) (.k (.int .i64 1))),zM 13 60]))))))
 .ret))))
 .skip))
 (.seq (zS [zM 77 3,zM 78 2,zB 79 .sub 77 78,zO 80 (.bin .eql (.t 79) (.k (.int .i64 1)))]
 (.cond (.t 80) (zS [zM 81 1,zM 14 81]
 (zS [zM 82 2,zM 15 82]
 (.seq (.block 4 (.loop (.seq (zS [zM 83 14,zM 84 15,zB 85 .lss 83 84]
  (.cond (.t 85) .skip
  (.exit 4)))
  (.block 5 (zS [zM 86 14,zM 87 15,zB 88 .add 86 87,zO 89 (.conv (.int .u64) (.t 88)),zO 90 (.bin .shr (.t 89) (.k (.int .u64 1))),zO 91 (.conv (.int .i64) (.t 90)),zM 16 91]
  (.seq (.dreg (zQ (zM 92 4) (zQ (zM 93 0) (zQ (zM 94 2) (zQ (zI 95 1 93 94) (zQ (zL 96 95) (zQ (zM 97 0) (zQ (zM 98 16) (zQ (zI 99 1 97 98) (zQ (zL 100 99) (.loud (zC 101 (.t 92) [.t 96,.t 100]) [] (zQ (zO 102 (.bin .lss (.t 101) (.k (.int .i64 0)))) (zQ (zO 103 (.un .not (.t 102))) .nil)))))))))))))
  (.cond (.t 103) (.reg [zM 104 16,zO 105 (.bin .add (.t 104) (.k (.int .i64 1))),zM 14 105])
  (.reg [zM 106 16,zM 15 106]))))))))
 (.seq (zS [zM 107 2,zM 17 107]
 (.block 6 (.loop (.seq (zS [zM 108 17,zM 109 14,zB 110 .gtr 108 109]
  (.cond (.t 110) .skip
  (.exit 6)))
  (.seq (.block 7 (.dreg (zQ (zM 113 0) (zQ (zM 114 17) (zQ (zM 115 0) (zQ (zM 116 17) (zQ (zO 117 (.bin .sub (.t 116) (.k (.int .i64 1)))) (zQ (zM 118 0) (zQ (zM 119 17) (zQ (zO 120 (.bin .sub (.t 119) (.k (.int .i64 1)))) (zQ (zI 121 1 118 120) (zQ (zL 122 121) (zQ (zM 123 0) (zQ (zM 124 17) (zQ (zI 125 1 123 124) (zQ (zL 126 125) (zQ (zI 127 1 113 114) (.loud (zT 1 127 122) [] (zQ (zI 128 1 115 117) (.loud (zT 1 128 126) [] .nil))))))))))))))))))))
  (.reg [zM 111 17,zO 112 (.bin .sub (.t 111) (.k (.int .i64 1))),zM 17 112]))))))
 .ret))))
 .skip))
 (zS [zM 129 1,zM 130 3,zB 131 .add 129 130,zO 132 (.conv (.int .u64) (.t 131)),zO 133 (.bin .shr (.t 132) (.k (.int .u64 1))),zO 134 (.conv (.int .i64) (.t 133)),zM 18 134]
 (zS [zM 135 18,zM 136 2,zB 137 .add 135 136,zM 19 137]
 (zS [zK 20 (.int .i64 0),zK 21 (.int .i64 0)]
 (.seq (zS [zM 138 2,zM 139 18,zB 140 .gtr 138 139]
 (.cond (.t 140) (zS [zM 141 19,zM 142 3,zB 143 .sub 141 142,zM 20 143]
 (.reg [zM 144 18,zM 21 144]))
 (zS [zM 145 1,zM 20 145]
 (.reg [zM 146 2,zM 21 146]))))
 (zS [zM 147 19,zO 148 (.bin .sub (.t 147) (.k (.int .i64 1))),zM 22 148]
 (.seq (.block 8 (.loop (.seq (zS [zM 149 20,zM 150 21,zB 151 .lss 149 150]
  (.cond (.t 151) .skip
  (.exit 8)))
  (.block 9 (zS [zM 152 20,zM 153 21,zB 154 .add 152 153,zO 155 (.conv (.int .u64) (.t 154)),zO 156 (.bin .shr (.t 155) (.k (.int .u64 1))),zO 157 (.conv (.int .i64) (.t 156)),zM 23 157]
  (.seq (.dreg (zQ (zM 158 4) (zQ (zM 159 0) (zQ (zM 160 22) (zQ (zM 161 23) (zQ (zB 162 .sub 160 161) (zQ (zI 163 1 159 162) (zQ (zL 164 163) (zQ (zM 165 0) (zQ (zM 166 23) (zQ (zI 167 1 165 166) (zQ (zL 168 167) (.loud (zC 169 (.t 158) [.t 164,.t 168]) [] (zQ (zO 170 (.bin .lss (.t 169) (.k (.int .i64 0)))) (zQ (zO 171 (.un .not (.t 170))) .nil)))))))))))))))
  (.cond (.t 171) (.reg [zM 172 23,zO 173 (.bin .add (.t 172) (.k (.int .i64 1))),zM 20 173])
  (.reg [zM 174 23,zM 21 174]))))))))
 (zS [zM 175 19,zM 176 20,zB 177 .sub 175 176,zM 24 177]
 (.seq (zS [zM 178 20,zM 179 2,zB 180 .lss 178 179,zM 181 180,zV 182 2 181 true,zV 183 24 181 true,zG 184 (.bin .lss (.t 182) (.t 183)) 181 true,zO 185 (.pick (.t 181) (.t 184) (.k (.bool false)))]
 (.cond (.t 185) (.reg [zM 186 0,zM 187 20,zM 188 2,zM 189 24,zM 190 4,zC 191 (.f 195) [.t 186,.t 187,.t 188,.t 189,.t 190]])
 .skip))
 (.seq (zS [zM 192 1,zM 193 20,zB 194 .lss 192 193,zM 195 194,zV 196 20 195 true,zV 197 18 195 true,zG 198 (.bin .lss (.t 196) (.t 197)) 195 true,zO 199 (.pick (.t 195) (.t 198) (.k (.bool false)))]
 (.cond (.t 199) (.reg [zM 200 0,zM 201 1,zM 202 20,zM 203 18,zM 204 4,zC 205 (.f 155) [.t 200,.t 201,.t 202,.t 203,.t 204]])
 .skip))
 (zS [zM 206 18,zM 207 24,zB 208 .lss 206 207,zM 209 208,zV 210 24 209 true,zV 211 3 209 true,zG 212 (.bin .lss (.t 210) (.t 211)) 209 true,zO 213 (.pick (.t 209) (.t 212) (.k (.bool false)))]
 (.cond (.t 213) (.reg [zM 214 0,zM 215 18,zM 216 24,zM 217 3,zM 218 4,zC 219 (.f 155) [.t 214,.t 215,.t 216,.t 217,.t 218]])
 .skip)))))))))))))
def a155:AF:=⟨220,[],.code b155,none⟩
def b156:AC:=
 (zS [zM 8 1,zO 9 (.bin .add (.t 8) (.k (.int .i64 1))),zM 6 9]
 (.block 0 (.loop (.seq (zS [zM 10 6,zM 11 2,zB 12 .lss 10 11]
  (.cond (.t 12) .skip
  (.exit 0)))
  (.seq (.block 1 (zS [zM 15 6,zM 7 15]
  (.block 2 (.loop (.seq (.seq (.dreg (zQ (zM 16 7) (zQ (zM 17 1) (zQ (zB 18 .gtr 16 17) (zQ (zM 19 18) (zQ (zV 20 0 19 true) (zQ (zV 21 7 19 true) (zQ (zG 22 (.iaddrS 1 (.t 20) (.t 21)) 19 true) (zQ (zG 23 (.load (.t 22)) 19 true) (zQ (zV 24 0 19 true) (zQ (zV 25 7 19 true) (zQ (zG 26 (.bin .sub (.t 25) (.k (.int .i64 1))) 19 true) (zQ (zG 27 (.iaddrS 1 (.t 24) (.t 26)) 19 true) (zQ (zG 28 (.load (.t 27)) 19 true) (.loud ⟨some 29,(.call (.f 162) [.t 23,.t 28]),(some (19,true))⟩ [] (zQ (zO 30 (.pick (.t 19) (.t 29) (.k (.bool false)))) .nil))))))))))))))))
   (.cond (.t 30) .skip
   (.exit 2)))
   (.seq (.block 3 (.dreg (zQ (zM 33 0) (zQ (zM 34 7) (zQ (zM 35 0) (zQ (zM 36 7) (zQ (zO 37 (.bin .sub (.t 36) (.k (.int .i64 1)))) (zQ (zM 38 0) (zQ (zM 39 7) (zQ (zO 40 (.bin .sub (.t 39) (.k (.int .i64 1)))) (zQ (zI 41 1 38 40) (zQ (zL 42 41) (zQ (zM 43 0) (zQ (zM 44 7) (zQ (zI 45 1 43 44) (zQ (zL 46 45) (zQ (zI 47 1 33 34) (.loud (zT 1 47 42) [] (zQ (zI 48 1 35 37) (.loud (zT 1 48 46) [] .nil))))))))))))))))))))
   (.reg [zM 31 7,zO 32 (.bin .sub (.t 31) (.k (.int .i64 1))),zM 7 32])))))))
  (.reg [zM 13 6,zO 14 (.bin .add (.t 13) (.k (.int .i64 1))),zM 6 14]))))))
def a156:AF:=⟨49,[],.code b156,none⟩
def b166:AC:=
 (zS [zK 2 (.int .i64 0)]
 (.seq (zS [zM 3 0,zO 4 (.bin .geq (.t 3) (.k (.int .u64 4294967296)))]
 (.cond (.t 4) (zS [zM 5 0,zO 6 (.bin .shr (.t 5) (.k (.int .u64 32))),zM 0 6]
 (.reg [zK 2 (.int .i64 32)]))
 .skip))
 (.seq (zS [zM 7 0,zO 8 (.bin .geq (.t 7) (.k (.int .u64 65536)))]
 (.cond (.t 8) (zS [zM 9 0,zO 10 (.bin .shr (.t 9) (.k (.int .u64 16))),zM 0 10]
 (.reg [zM 11 2,zO 12 (.bin .add (.t 11) (.k (.int .i64 16))),zM 2 12]))
 .skip))
 (.seq (zS [zM 13 0,zO 14 (.bin .geq (.t 13) (.k (.int .u64 256)))]
 (.cond (.t 14) (zS [zM 15 0,zO 16 (.bin .shr (.t 15) (.k (.int .u64 8))),zM 0 16]
 (.reg [zM 17 2,zO 18 (.bin .add (.t 17) (.k (.int .i64 8))),zM 2 18]))
 .skip))
 (zS [zM 19 2,zM 20 0,zO 21 (.conv (.int .u8) (.t 20)),zO 22 (.indexS (.k (.string ⟨#[0,1,2,2,3,3,3,3,4,4,4,4,4,4,4,4,5,5,5,5,5,5,5,5,5,5,5,5,5,5,5,5,6,6,6,6,6,6,6,6,6,6,6,6,6,6,6,6,6,6,6,6,6,6,6,6,6,6,6,6,6,6,6,6,7,7,7,7,7,7,7,7,7,7,7,7,7,7,7,7,7,7,7,7,7,7,7,7,7,7,7,7,7,7,7,7,7,7,7,7,7,7,7,7,7,7,7,7,7,7,7,7,7,7,7,7,7,7,7,7,7,7,7,7,7,7,7,7,8,8,8,8,8,8,8,8,8,8,8,8,8,8,8,8,8,8,8,8,8,8,8,8,8,8,8,8,8,8,8,8,8,8,8,8,8,8,8,8,8,8,8,8,8,8,8,8,8,8,8,8,8,8,8,8,8,8,8,8,8,8,8,8,8,8,8,8,8,8,8,8,8,8,8,8,8,8,8,8,8,8,8,8,8,8,8,8,8,8,8,8,8,8,8,8,8,8,8,8,8,8,8,8,8,8,8,8,8,8,8,8,8,8,8,8,8,8,8,8,8,8,8,8,8,8,8,8]⟩)) (.t 21)),zO 23 (.conv (.int .i64) (.t 22)),zB 24 .add 19 23,zM 2 24]
 .ret)))))
def a166:AF:=⟨25,[.t 2],.code b166,none⟩
def b167:AC:=
 (zS [zK 4 (.int .u64 0),zK 5 (.bool false)]
 (.seq (zS [zM 7 0,zO 8 (.eq false .ptr (.t 7) (.k (.pointer none))),zM 9 8,zV 10 1 9 false,zG 11 (.bin .lss (.t 10) (.k (.int .i64 0))) 9 false,zO 12 (.pick (.t 9) (.k (.bool true)) (.t 11)),zM 13 12,zV 14 1 13 false,zG 15 (.bin .geq (.t 14) (.k (.int .i64 12))) 13 false,zO 16 (.pick (.t 13) (.k (.bool true)) (.t 15))]
 (.cond (.t 16) (zS [zK 4 (.int .u64 0),zK 5 (.bool false)]
 .ret)
 .skip))
 (.seq (zS [zM 17 0,zU 18 17,zF 19 0 18,zL 20 19,zE 21 20,zO 22 (.bin .sub (.t 21) (.k (.int .i64 1))),zM 6 22]
 (.block 0 (.loop (.seq (zS [zM 23 6,zO 24 (.bin .geq (.t 23) (.k (.int .i64 0)))]
  (.cond (.t 24) .skip
  (.exit 0)))
  (.seq (.block 1 (zS [zM 27 0,zU 28 27,zF 29 0 28,zL 30 29,zM 31 6,zM 32 1,zI 33 24 30 31,zF 34 0 33,zO 35 (.iaddrA 12 1 (.t 34) (.t 32)),zL 36 35]
  (.cond (.t 36) (zS [zM 37 0,zU 38 37,zF 39 0 38,zL 40 39,zM 41 6,zM 42 1,zI 43 24 40 41,zF 44 12 43,zO 45 (.iaddrA 12 1 (.t 44) (.t 42)),zL 46 45,zM 4 46,zK 5 (.bool true)]
  .ret)
  .skip)))
  (.reg [zM 25 6,zO 26 (.bin .sub (.t 25) (.k (.int .i64 1))),zM 6 26]))))))
 (zS [zK 4 (.int .u64 0),zK 5 (.bool false)]
 .ret))))
def a167:AF:=⟨47,[.t 4,.t 5],.code b167,none⟩
def b169:AC:=
 (zS [zK 2 (.int .i64 0)]
 (.seq (zS [zM 3 0,zO 4 (.eq false .ptr (.t 3) (.k (.pointer none)))]
 (.cond (.t 4) (zS [zK 2 (.int .i64 0)]
 .ret)
 .skip))
 (zS [zM 5 0,zU 6 5,zF 7 0 6,zL 8 7,zE 9 8,zO 10 (.bin .sub (.t 9) (.k (.int .i64 1))),zM 2 10]
 .ret)))
def a169:AF:=⟨11,[.t 2],.code b169,none⟩
def b179:AC:=
 (zS [zK 2 (.int .i64 0)]
 (.seq (.block 0 (zS [zM 4 0,zO 5 (.eq false .ptr (.t 4) (.k (.pointer none))),zM 3 5]
 (.cond (.t 3) (zS [zK 2 (.int .i64 1)]
 .ret)
 (zS [zM 7 0,zC 8 (.f 169) [.t 7],zO 9 (.bin .geq (.t 8) (.k (.int .i64 4))),zM 6 9]
 (.cond (.t 6) (zS [zK 2 (.int .i64 4)]
 .ret)
 .skip)))))
 (zS [zM 10 0,zO 11 (.bslice 214 [] 0 []),zM 12 0,zU 13 12,zF 14 0 13,zL 15 14,zO 16 (.append 214 24 112 (.t 11) (.t 15)),zO 17 (.build [(.bool false),(.bool false),(.bool false),(.bool false),(.bool false),(.bool false),(.bool false),(.bool false),(.bool false),(.bool false),(.bool false),(.bool false),(.int .u64 0),(.int .u64 0),(.int .u64 0),(.int .u64 0),(.int .u64 0),(.int .u64 0),(.int .u64 0),(.int .u64 0),(.int .u64 0),(.int .u64 0),(.int .u64 0),(.int .u64 0)] []),zO 18 (.bslice 214 [(.bool false),(.bool false),(.bool false),(.bool false),(.bool false),(.bool false),(.bool false),(.bool false),(.bool false),(.bool false),(.bool false),(.bool false),(.int .u64 0),(.int .u64 0),(.int .u64 0),(.int .u64 0),(.int .u64 0),(.int .u64 0),(.int .u64 0),(.int .u64 0),(.int .u64 0),(.int .u64 0),(.int .u64 0),(.int .u64 0)] 1 [(0,24,(.t 17))]),zO 19 (.append 214 24 112 (.t 16) (.t 18)),zU 20 10,zF 21 0 20,zT 1 21 19]
 (zS [zK 2 (.int .i64 0)]
 .ret))))
def a179:AF:=⟨22,[.t 2],.code b179,none⟩
def b180:AC:=
 (zS [zK 2 (.int .i64 0)]
 (.seq (.block 0 (zS [zM 4 0,zO 5 (.eq false .ptr (.t 4) (.k (.pointer none))),zM 3 5]
 (.cond (.t 3) (zS [zK 2 (.int .i64 1)]
 .ret)
 (zS [zM 7 0,zC 8 (.f 169) [.t 7],zO 9 (.bin .eql (.t 8) (.k (.int .i64 0))),zM 6 9]
 (.cond (.t 6) (zS [zK 2 (.int .i64 8)]
 .ret)
 .skip)))))
 (.seq (.dreg (zQ (zM 10 0) (zQ (zM 12 0) (zQ (zU 13 12) (zQ (zF 14 0 13) (zQ (zL 15 14) (zQ (zM 16 0) (zQ (zU 17 16) (zQ (zF 18 0 17) (zQ (zL 19 18) (zQ (zE 20 19) (zQ (zO 21 (.bin .sub (.t 20) (.k (.int .i64 1)))) (zQ (zO 22 (.slice 24 (.t 15) none (some (.t 21)) none)) (.loud (zO 11 (.bslice 214 [] 0 [])) [zL 19 18,zL 15 14] (.loud (zO 23 (.append 214 24 112 (.t 11) (.t 22))) [] (zQ (zU 24 10) (zQ (zF 25 0 24) (.loud (zT 1 25 23) [] .nil))))))))))))))))))
 (zS [zK 2 (.int .i64 0)]
 .ret))))
def a180:AF:=⟨26,[.t 2],.code b180,none⟩
def b181:AC:=
 (zS [zK 2 (.int .i64 0)]
 (.seq (.block 0 (zS [zM 8 0,zO 9 (.eq false .ptr (.t 8) (.k (.pointer none))),zM 7 9]
 (.cond (.t 7) (zS [zK 2 (.int .i64 1)]
 .ret)
 (zS [zM 11 0,zC 12 (.f 169) [.t 11],zO 13 (.bin .eql (.t 12) (.k (.int .i64 0))),zM 10 13]
 (.cond (.t 10) (zS [zK 2 (.int .i64 8)]
 .ret)
 .skip)))))
 (zS [zM 14 0,zU 15 14,zF 16 0 15,zL 17 16,zE 18 17,zM 3 18]
 (.seq (.dreg (zQ (zM 19 0) (zQ (zU 20 19) (zQ (zF 21 0 20) (zQ (zL 22 21) (zQ (zM 23 3) (zQ (zO 24 (.bin .sub (.t 23) (.k (.int .i64 1)))) (zQ (zI 25 24 22 24) (zQ (zO 26 (.loadN 24 (.t 25))) (zQ (zM 27 0) (zQ (zU 28 27) (zQ (zF 29 0 28) (zQ (zL 30 29) (zQ (zM 31 3) (zQ (zO 32 (.bin .sub (.t 31) (.k (.int .i64 2)))) (zQ (zI 33 24 30 32) (zQ (zO 34 (.loadN 24 (.t 33))) (.both (.loud (zO 4 (.alloc 214 [(.bool false),(.bool false),(.bool false),(.bool false),(.bool false),(.bool false),(.bool false),(.bool false),(.bool false),(.bool false),(.bool false),(.bool false),(.int .u64 0),(.int .u64 0),(.int .u64 0),(.int .u64 0),(.int .u64 0),(.int .u64 0),(.int .u64 0),(.int .u64 0),(.int .u64 0),(.int .u64 0),(.int .u64 0),(.int .u64 0)])) [zO 34 (.loadN 24 (.t 33)),zL 30 29,zO 26 (.loadN 24 (.t 25)),zL 22 21] (.loud (zO 5 (.alloc 214 [(.bool false),(.bool false),(.bool false),(.bool false),(.bool false),(.bool false),(.bool false),(.bool false),(.bool false),(.bool false),(.bool false),(.bool false),(.int .u64 0),(.int .u64 0),(.int .u64 0),(.int .u64 0),(.int .u64 0),(.int .u64 0),(.int .u64 0),(.int .u64 0),(.int .u64 0),(.int .u64 0),(.int .u64 0),(.int .u64 0)])) [zO 34 (.loadN 24 (.t 33)),zL 30 29,zO 26 (.loadN 24 (.t 25)),zL 22 21] (.loud (zT 24 4 26) [zO 34 (.loadN 24 (.t 33)),zL 30 29] (.loud (zT 24 5 34) [] .nil))))
  (.loud (zO 5 (.alloc 214 [(.bool false),(.bool false),(.bool false),(.bool false),(.bool false),(.bool false),(.bool false),(.bool false),(.bool false),(.bool false),(.bool false),(.bool false),(.int .u64 0),(.int .u64 0),(.int .u64 0),(.int .u64 0),(.int .u64 0),(.int .u64 0),(.int .u64 0),(.int .u64 0),(.int .u64 0),(.int .u64 0),(.int .u64 0),(.int .u64 0)])) [zO 34 (.loadN 24 (.t 33)),zL 30 29,zO 26 (.loadN 24 (.t 25)),zL 22 21] (.loud (zO 4 (.alloc 214 [(.bool false),(.bool false),(.bool false),(.bool false),(.bool false),(.bool false),(.bool false),(.bool false),(.bool false),(.bool false),(.bool false),(.bool false),(.int .u64 0),(.int .u64 0),(.int .u64 0),(.int .u64 0),(.int .u64 0),(.int .u64 0),(.int .u64 0),(.int .u64 0),(.int .u64 0),(.int .u64 0),(.int .u64 0),(.int .u64 0)])) [zO 34 (.loadN 24 (.t 33)),zL 30 29,zO 26 (.loadN 24 (.t 25)),zL 22 21] (.loud (zT 24 4 26) [zO 34 (.loadN 24 (.t 33)),zL 30 29] (.loud (zT 24 5 34) [] .nil))))))))))))))))))))))
 (.seq (zS [zK 6 (.int .i64 0)]
 (.block 1 (.loop (.seq (zS [zM 35 6,zO 36 (.bin .lss (.t 35) (.k (.int .i64 12)))]
  (.cond (.t 36) .skip
  (.exit 1)))
  (.seq (.block 2 (zS [zM 39 6,zF 40 0 4,zO 41 (.iaddrA 12 1 (.t 40) (.t 39)),zL 42 41]
  (.cond (.t 42) (.dreg (zQ (zM 43 6) (zQ (zM 44 6) (zQ (zM 45 6) (zQ (zF 46 12 4) (zQ (zO 47 (.iaddrA 12 1 (.t 46) (.t 45))) (zQ (zL 48 47) (zQ (zF 49 0 5) (zQ (zO 50 (.iaddrA 12 1 (.t 49) (.t 43))) (zQ (zF 51 12 5) (.loud (zN (.store 1 (.t 50) (.k (.bool true)))) [zL 48 47] (zQ (zO 52 (.iaddrA 12 1 (.t 51) (.t 44))) (.loud (zT 1 52 48) [] .nil)))))))))))))
  .skip)))
  (.reg [zM 37 6,zO 38 (.bin .add (.t 37) (.k (.int .i64 1))),zM 6 38]))))))
 (zS [zM 53 0,zC 54 (.f 180) [.t 53]]
 (zS [zM 55 0,zM 56 3,zO 57 (.bin .sub (.t 56) (.k (.int .i64 2))),zO 58 (.loadN 24 (.t 5)),zC 59 (.f 205) [.t 55,.t 57,.t 58]]
 (zS [zK 2 (.int .i64 0)]
 .ret))))))))
def a181:AF:=⟨60,[.t 2],.code b181,none⟩
def b182:AC:=
 (zS [zK 6 (.int .i64 0)]
 (.seq (.block 0 (zS [zM 9 0,zO 10 (.eq false .ptr (.t 9) (.k (.pointer none))),zM 8 10]
 (.cond (.t 8) (zS [zK 6 (.int .i64 1)]
 .ret)
 (zS [zM 12 1,zO 13 (.bin .lss (.t 12) (.k (.int .i64 0))),zM 14 13,zV 15 1 14 false,zG 16 (.bin .geq (.t 15) (.k (.int .i64 12))) 14 false,zO 17 (.pick (.t 14) (.k (.bool true)) (.t 16)),zM 11 17]
 (.cond (.t 11) (zS [zK 6 (.int .i64 2)]
 .ret)
 (zS [zM 19 2,zC 20 (.f 98) [.t 19],zO 21 (.un .not (.t 20)),zM 18 21]
 (.cond (.t 18) (zS [zK 6 (.int .i64 3)]
 .ret)
 .skip)))))))
 (.seq (.dreg (zQ (zM 22 0) (zQ (zU 23 22) (zQ (zF 24 0 23) (zQ (zL 25 24) (zQ (zM 26 0) (zQ (zU 27 26) (zQ (zF 28 0 27) (zQ (zL 29 28) (zQ (zE 30 29) (zQ (zO 31 (.bin .sub (.t 30) (.k (.int .i64 1)))) (zQ (zI 32 24 25 31) (zQ (zO 33 (.loadN 24 (.t 32))) (.loud (zO 7 (.alloc 214 [(.bool false),(.bool false),(.bool false),(.bool false),(.bool false),(.bool false),(.bool false),(.bool false),(.bool false),(.bool false),(.bool false),(.bool false),(.int .u64 0),(.int .u64 0),(.int .u64 0),(.int .u64 0),(.int .u64 0),(.int .u64 0),(.int .u64 0),(.int .u64 0),(.int .u64 0),(.int .u64 0),(.int .u64 0),(.int .u64 0)])) [zO 33 (.loadN 24 (.t 32)),zL 29 28,zL 25 24] (.loud (zT 24 7 33) [] .nil)))))))))))))))
 (.seq (zS [zM 34 1,zF 35 0 7,zO 36 (.iaddrA 12 1 (.t 35) (.t 34)),zL 37 36,zO 38 (.un .not (.t 37)),zM 39 38,zV 40 0 39 true,⟨some 41,(.call (.f 206) [.t 40]),(some (39,true))⟩,zG 42 (.bin .geq (.t 41) (.k (.int .i64 16))) 39 true,zO 43 (.pick (.t 39) (.t 42) (.k (.bool false)))]
 (.cond (.t 43) (zS [zK 6 (.int .i64 4)]
 .ret)
 .skip))
 (zS [zM 44 1,zM 45 1,zM 46 2,zF 47 0 7,zO 48 (.iaddrA 12 1 (.t 47) (.t 44)),zN (.store 1 (.t 48) (.k (.bool true))),zF 49 12 7,zO 50 (.iaddrA 12 1 (.t 49) (.t 45)),zT 1 50 46]
 (.seq (.dreg (zQ (zM 51 0) (zQ (zM 52 0) (zQ (zU 53 52) (zQ (zF 54 0 53) (zQ (zL 55 54) (zQ (zE 56 55) (zQ (zO 57 (.bin .sub (.t 56) (.k (.int .i64 1)))) (zQ (zO 58 (.loadN 24 (.t 7))) (.loud (zC 59 (.f 205) [.t 51,.t 57,.t 58]) [] .nil))))))))))
 (zS [zK 6 (.int .i64 0)]
 .ret)))))))
def a182:AF:=⟨60,[.t 6],.code b182,none⟩
def b183:AC:=
 (zS []
 (.block 0 (zS [zO 6 (.ifnil false (.t 4))]
 (.cond (.t 6) (.reg [zM 1 4])
 (zS [zO 7 (.tassert 218 (.agg #[(.int .i64 0)]) (.t 4)),zO 8 (.extract (.t 7) 1),zO 9 (.extract (.t 7) 0)]
 (.cond (.t 8) (zS [zO 2 (.alloc 218 [(.int .i64 0)]),zT 1 2 9]
 (.reg [zF 10 0 2,zL 11 10,zT 1 0 11]))
 (zS [zM 3 4]
 (.reg [zM 5 3,⟨none,(.panic (.t 5)),none⟩]))))))))
def a183:AF:=⟨12,[],.code b183,some 4⟩
def b184:AC:=
 (zS [zK 2 (.int .u64 0)]
 (.seq (zS [zM 3 0,zC 4 (.f 96) [.t 3]]
 (.cond (.t 4) (zS [zM 5 0,zM 2 5]
 .ret)
 .skip))
 (zS [zK 2 (.int .u64 9221120237041090560)]
 .ret)))
def a184:AF:=⟨6,[.t 2],.code b184,none⟩
def b185:AC:=
 (zS [zO 3 (.box 85 (.t 0)),zO 4 (.box 3 (.t 1)),zO 5 (.box 223 (.t 2)),zK 6 (.int .i64 0)]
 (zS [zO 7 (.mkfunc 207 [] [.t 3,.t 4,.t 5]),zC 8 (.f 128) [.t 7],zM 6 8]
 .ret))
def a185:AF:=⟨9,[.t 6],.code b185,none⟩
def b186:AC:=
 (zS [zK 2 (.int .u64 0)]
 (zS [zM 3 0,zO 4 (.bin .sub (.t 3) (.k (.int .u64 1))),zM 2 4]
 .ret))
def a186:AF:=⟨5,[.t 2],.code b186,none⟩
def b187:AC:=
 (zS [zL 3 0,zO 4 (.eq true .ptr (.t 3) (.k (.pointer none))),zC 5 (.f 130) [.t 4,(.k (.int .i64 1))]]
 (zS [zL 6 1,zO 7 (.bin .geq (.t 6) (.k (.int .i64 0))),zM 8 7,zG 9 (.load (.t 1)) 8 true,zG 10 (.bin .lss (.t 9) (.k (.int .i64 4))) 8 true,zO 11 (.pick (.t 8) (.t 10) (.k (.bool false))),zC 12 (.f 130) [.t 11,(.k (.int .i64 2))]]
 (zS [zL 13 0,zU 14 13,zF 15 0 14,zL 16 15,zO 17 (.eq false .ptr (.t 16) (.k (.pointer none))),zC 18 (.f 130) [.t 17,(.k (.int .i64 7))]]
 (.seq (.dreg (zQ (zL 19 0) (zQ (zU 20 19) (zQ (zF 21 1 20) (zQ (zL 22 21) (zQ (zL 23 2) (zQ (zB 24 .eql 22 23) (.loud (zC 25 (.f 130) [.t 24,(.k (.int .i64 8))]) [] .nil))))))))
 (zS [zL 26 0,zU 27 26,zF 28 1 27,zL 29 28,zO 30 (.bin .lss (.t 29) (.k (.int .u64 1099511627775))),zC 31 (.f 130) [.t 30,(.k (.int .i64 4))]]
 (zS [zL 32 0,zU 33 32,zF 34 0 33,zT 1 34 1]
 (.reg [zL 35 0,zU 36 35,zF 37 1 36,zL 38 37,zO 39 (.bin .add (.t 38) (.k (.int .u64 1))),zU 40 35,zF 41 1 40,zT 1 41 39])))))))
def a187:AF:=⟨42,[],.code b187,none⟩
def b188:AC:=
 (zS [zK 2 (.int .u64 0)]
 (zS [zM 3 0,zO 4 (.bin .add (.t 3) (.k (.int .u64 1))),zM 2 4]
 .ret))
def a188:AF:=⟨5,[.t 2],.code b188,none⟩
def b189:AC:=
 (.block 0 (.loop (.seq (zS [zL 3 1,zO 4 (.eq true .ptr (.t 3) (.k (.pointer none)))]
  (.cond (.t 4) .skip
  (.exit 0)))
  (.seq (.block 1 (zS [zM 9 0,zL 10 1,zU 11 10,zF 12 0 11,zL 13 12,zC 14 (.t 9) [.t 13],zO 15 (.un .not (.t 14))]
  (.cond (.t 15) .ret
  .skip)))
  (.reg [zL 5 1,zU 6 5,zF 7 1 6,zL 8 7,zT 1 1 8])))))
def a189:AF:=⟨16,[],.code b189,none⟩
def b190:AC:=
 (zS [zK 2 (.slice none 0 0),zK 3 (.int .i64 0)]
 (.seq (.block 0 (zS [zM 6 0,zO 7 (.eq false .ptr (.t 6) (.k (.pointer none))),zM 5 7]
 (.cond (.t 5) (zS [zK 2 (.slice none 0 0),zK 3 (.int .i64 1)]
 .ret)
 (zS [zM 9 0,zU 10 9,zF 11 1 10,zL 12 11,zO 13 (.bin .eql (.t 12) (.k (.int .i64 0))),zM 8 13]
 (.cond (.t 8) (zS [zK 2 (.slice none 0 0),zK 3 (.int .i64 8)]
 .ret)
 .skip)))))
 (zS [zM 14 0,zU 15 14,zF 16 0 15,zL 17 16,zU 18 17,zF 19 0 18,zL 20 19,zM 4 20]
 (zS [zM 21 0,zM 22 0,zU 23 22,zF 24 0 23,zL 25 24,zU 26 25,zF 27 1 26,zL 28 27,zU 29 21,zF 30 0 29,zT 1 30 28]
 (zS [zM 31 0,zU 32 31,zF 33 1 32,zL 34 33,zO 35 (.bin .sub (.t 34) (.k (.int .i64 1))),zU 36 31,zF 37 1 36,zT 1 37 35]
 (zS [zM 38 4,zM 2 38,zK 3 (.int .i64 0)]
 .ret))))))
def a190:AF:=⟨39,[.t 2,.t 3],.code b190,none⟩
def b191:AC:=
 (zS [zO 3 (.box 157 (.t 1)),zK 4 (.slice none 0 0)]
 (zS [zM 7 0,zC 8 (.f 208) [.t 7],zM 5 8]
 (.seq (zS [zM 9 5,zE 10 9,zK 11 (.int .i64 0)]
 (.block 0 (.loop (zS [zB 12 .lss 11 10]
  (.seq (.cond (.t 12) .skip
  (.exit 0))
  (.seq (.block 1 (zS [zM 13 11,zM 6 13]
  (.seq (.dreg (zQ (zM 14 5) (zQ (zM 15 6) (zQ (zI 16 2 14 15) (zQ (zF 17 0 16) (zQ (zL 18 17) (zQ (zF 19 0 3) (zQ (zL 20 19) (zQ (zB 21 .eql 18 20) .nil)))))))))
  (.cond (.t 21) (zS [zM 22 5,zM 23 6,zF 24 1 3,zL 25 24,zI 26 2 22 23,zF 27 1 26,zT 1 27 25]
  (zS [zM 28 5,zM 4 28]
  .ret))
  .skip))))
  (.reg [zO 29 (.bin .add (.t 11) (.k (.int .i64 1))),zM 11 29])))))))
 (zS [zM 30 5,zO 31 (.loadN 2 (.t 3)),zO 32 (.bslice 157 [(.int .i64 0),(.int .u64 0)] 1 [(0,2,(.t 31))]),zO 33 (.append 157 2 16 (.t 30) (.t 32)),zM 4 33]
 .ret))))
def a191:AF:=⟨34,[.t 4],.code b191,none⟩
def b192:AC:=
 (zS [zK 2 (.int .i64 0)]
 (.seq (zS [zM 5 0,zO 6 (.eq false .ptr (.t 5) (.k (.pointer none)))]
 (.cond (.t 6) (zS [zK 2 (.int .i64 0)]
 .ret)
 .skip))
 (zS [zO 3 (.alloc 3 [(.int .i64 0)]),zN (.store 1 (.t 3) (.k (.int .i64 0)))]
 (.seq (zS [zM 7 0,zU 8 7,zF 9 0 8,zL 10 9,zC 11 (.f 140) [.t 10]]
 (.block 0 (.rfunc (.t 11) [12] (.reg [zM 4 12])
  (.block 1 (.reg [zL 13 3,zM 14 4,zE 15 14,zB 16 .add 13 15,zT 1 3 16])))))
 (zS [zL 17 3,zM 2 17]
 .ret)))))
def a192:AF:=⟨18,[.t 2],.code b192,none⟩
def b193:AC:=
 (zS [zK 6 (.pointer none)]
 (zS [zC 9 (.f 119) [],zM 7 9]
 (.seq (zS [zK 8 (.int .i64 0)]
 (.block 0 (.loop (.seq (zS [zM 10 8,zM 11 1,zB 12 .lss 10 11]
  (.cond (.t 12) .skip
  (.exit 0)))
  (.seq (.block 1 (zS [zM 15 0,zM 16 8,zI 17 4 15 16,zF 18 1 17,zL 19 18,zM 20 2,zB 21 .eql 19 20]
  (.cond (.t 21) (.reg [zM 22 7,zM 23 0,zM 24 8,zI 25 4 23 24,zO 26 (.loadN 4 (.t 25)),zC 27 (.f 194) [.t 22,.t 26]])
  .skip)))
  (.reg [zM 13 8,zO 14 (.bin .add (.t 13) (.k (.int .i64 1))),zM 8 14]))))))
 (zS [zM 28 7,zM 6 28]
 .ret))))
def a193:AF:=⟨29,[.t 6],.code b193,none⟩
def b194:AC:=
 (zS [zO 3 (.box 84 (.t 1)),zK 4 (.int .i64 0)]
 (.seq (zS [zF 5 0 3,zL 6 5]
 (.block 0 (zS [zO 8 (.bin .eql (.t 6) (.k (.int .u8 3))),zM 7 8]
 (.cond (.t 7) (zS [zM 9 0,zF 10 2 3,zL 11 10,zF 12 3 3,zL 13 12,zC 14 (.f 182) [.t 9,.t 11,.t 13],zM 4 14]
 .ret)
 (zS [zO 16 (.bin .eql (.t 6) (.k (.int .u8 4))),zM 15 16]
 (.cond (.t 15) (zS [zM 17 0,zC 18 (.f 179) [.t 17],zM 4 18]
 .ret)
 (zS [zO 20 (.bin .eql (.t 6) (.k (.int .u8 5))),zM 19 20]
 (.cond (.t 19) (zS [zM 21 0,zC 22 (.f 180) [.t 21],zM 4 22]
 .ret)
 (zS [zO 24 (.bin .eql (.t 6) (.k (.int .u8 6))),zM 23 24]
 (.cond (.t 23) (zS [zM 25 0,zC 26 (.f 181) [.t 25],zM 4 26]
 .ret)
 .skip))))))))))
 (zS [zK 4 (.int .i64 0)]
 .ret)))
def a194:AF:=⟨27,[.t 4],.code b194,none⟩
def b195:AC:=
 (zS [zM 12 2,zM 13 1,zB 14 .sub 12 13,zM 10 14]
 (zS [zM 15 3,zM 16 2,zB 17 .sub 15 16,zM 11 17]
 (.seq (.block 0 (.loop (.seq (zS [zM 18 10,zM 19 11,zB 20 .neq 18 19]
  (.cond (.t 20) .skip
  (.exit 0)))
  (.block 1 (zS [zM 21 10,zM 22 11,zB 23 .gtr 21 22]
  (.cond (.t 23) (zS [zM 24 0,zM 25 2,zM 26 10,zB 27 .sub 25 26,zM 28 2,zM 29 11,zM 30 4,zC 31 (.f 209) [.t 24,.t 27,.t 28,.t 29,.t 30]]
  (.reg [zM 32 10,zM 33 11,zB 34 .sub 32 33,zM 10 34]))
  (zS [zM 35 0,zM 36 2,zM 37 10,zB 38 .sub 36 37,zM 39 2,zM 40 11,zB 41 .add 39 40,zM 42 10,zB 43 .sub 41 42,zM 44 10,zM 45 4,zC 46 (.f 209) [.t 35,.t 38,.t 43,.t 44,.t 45]]
  (.reg [zM 47 11,zM 48 10,zB 49 .sub 47 48,zM 11 49]))))))))
 (.reg [zM 50 0,zM 51 2,zM 52 10,zB 53 .sub 51 52,zM 54 2,zM 55 10,zM 56 4,zC 57 (.f 209) [.t 50,.t 53,.t 54,.t 55,.t 56]]))))
def a195:AF:=⟨58,[],.code b195,none⟩
def b205:AC:=
 (zS [zO 5 (.box 214 (.t 2))]
 (zS [zO 7 (.bslice 214 [] 0 []),zM 8 0,zU 9 8,zF 10 0 9,zL 11 10,zO 12 (.append 214 24 112 (.t 7) (.t 11)),zM 6 12]
 (zS [zM 13 6,zM 14 1,zO 15 (.loadN 24 (.t 5)),zI 16 24 13 14,zT 24 16 15]
 (.reg [zM 17 0,zM 18 6,zU 19 17,zF 20 0 19,zT 1 20 18]))))
def a205:AF:=⟨21,[],.code b205,none⟩
def b206:AC:=
 (zS [zK 2 (.int .i64 0)]
 (zS [zK 3 (.int .i64 0)]
 (.seq (zS [zK 4 (.int .i64 0)]
 (.block 0 (.loop (.seq (zS [zM 6 0,zO 7 (.eq true .ptr (.t 6) (.k (.pointer none))),zM 8 7,zV 9 4 8 true,zV 10 0 8 true,zG 11 (.nilchk (.t 10)) 8 true,zG 12 (.faddr 0 (.t 11)) 8 true,zG 13 (.load (.t 12)) 8 true,zG 14 (.lenS (.t 13)) 8 true,zG 15 (.bin .lss (.t 9) (.t 14)) 8 true,zO 16 (.pick (.t 8) (.t 15) (.k (.bool false)))]
  (.cond (.t 16) .skip
  (.exit 0)))
  (.seq (.block 1 (zS [zK 5 (.int .i64 0)]
  (.block 2 (.loop (.seq (zS [zM 19 5,zO 20 (.bin .lss (.t 19) (.k (.int .i64 12)))]
   (.cond (.t 20) .skip
   (.exit 2)))
   (.seq (.block 3 (zS [zM 23 0,zU 24 23,zF 25 0 24,zL 26 25,zM 27 4,zM 28 5,zI 29 24 26 27,zF 30 0 29,zO 31 (.iaddrA 12 1 (.t 30) (.t 28)),zL 32 31]
   (.cond (.t 32) (.reg [zM 33 3,zO 34 (.bin .add (.t 33) (.k (.int .i64 1))),zM 3 34])
   .skip)))
   (.reg [zM 21 5,zO 22 (.bin .add (.t 21) (.k (.int .i64 1))),zM 5 22])))))))
  (.reg [zM 17 4,zO 18 (.bin .add (.t 17) (.k (.int .i64 1))),zM 4 18]))))))
 (zS [zM 35 3,zM 2 35]
 .ret))))
def a206:AF:=⟨36,[.t 2],.code b206,none⟩
def b207:AC:=
 (zS [zL 3 0,zO 4 (.eq true .ptr (.t 3) (.k (.pointer none))),zC 5 (.f 130) [.t 4,(.k (.int .i64 1))]]
 (.seq (.dreg (zQ (zL 6 0) (zQ (zU 7 6) (zQ (zF 8 0 7) (zQ (zL 9 8) (zQ (zO 10 (.eq true .ptr (.t 9) (.k (.pointer none)))) (zQ (zM 11 10) (zQ (zG 12 (.load (.t 0)) 11 true) (zQ (zG 13 (.nilchk (.t 12)) 11 true) (zQ (zG 14 (.faddr 0 (.t 13)) 11 true) (zQ (zG 15 (.load (.t 14)) 11 true) (zQ (zG 16 (.nilchk (.t 15)) 11 true) (zQ (zG 17 (.load (.t 16)) 11 true) (zQ (zG 18 (.load (.t 1)) 11 true) (zQ (zG 19 (.bin .eql (.t 17) (.t 18)) 11 true) (zQ (zO 20 (.pick (.t 11) (.t 19) (.k (.bool false)))) (.loud (zC 21 (.f 130) [.t 20,(.k (.int .i64 8))]) [] .nil)))))))))))))))))
 (zS [zL 22 0,zU 23 22,zF 24 0 23,zN (.store 1 (.t 24) (.k (.pointer none)))]
 (.dreg (zQ (zL 25 0) (zQ (zL 26 2) (zQ (zL 27 0) (zQ (zU 28 27) (zQ (zF 29 1 28) (zQ (zL 30 29) (.loud (zC 31 (.t 26) [.t 30]) [zL 25 0] (zQ (zU 32 25) (zQ (zF 33 1 32) (.loud (zT 1 33 31) [] .nil))))))))))))))
def a207:AF:=⟨34,[],.code b207,none⟩
def b208:AC:=
 (zS [zK 2 (.slice none 0 0)]
 (.seq (zS [zM 3 0,⟨some 4,(.isnil false (.t 3)),none⟩]
 (.cond (.t 4) (zS [zK 2 (.slice none 0 0)]
 .ret)
 .skip))
 (zS [zO 5 (.bslice 157 [] 0 []),zM 6 0,zO 7 (.append 157 2 16 (.t 5) (.t 6)),zM 2 7]
 .ret)))
def a208:AF:=⟨8,[.t 2],.code b208,none⟩
def b209:AC:=
 (zS [zK 10 (.int .i64 0)]
 (.block 0 (.loop (.seq (zS [zM 11 10,zM 12 3,zB 13 .lss 11 12]
  (.cond (.t 13) .skip
  (.exit 0)))
  (.seq (.block 1 (.dreg (zQ (zM 16 0) (zQ (zM 17 1) (zQ (zM 18 10) (zQ (zB 19 .add 17 18) (zQ (zM 20 0) (zQ (zM 21 2) (zQ (zM 22 10) (zQ (zB 23 .add 21 22) (zQ (zM 24 0) (zQ (zM 25 2) (zQ (zM 26 10) (zQ (zB 27 .add 25 26) (zQ (zI 28 1 24 27) (zQ (zL 29 28) (zQ (zM 30 0) (zQ (zM 31 1) (zQ (zM 32 10) (zQ (zB 33 .add 31 32) (zQ (zI 34 1 30 33) (zQ (zL 35 34) (zQ (zI 36 1 16 19) (.loud (zT 1 36 29) [] (zQ (zI 37 1 20 23) (.loud (zT 1 37 35) [] .nil))))))))))))))))))))))))))
  (.reg [zM 14 10,zO 15 (.bin .add (.t 14) (.k (.int .i64 1))),zM 10 15]))))))
def a209:AF:=⟨38,[],.code b209,none⟩
def forms:FuncId->Option AF
 |3=> some a3
 |4=> some a4
 |8=> some a8
 |9=> some a9
 |10=> some a10
 |11=> some a11
 |12=> some a12
 |13=> some a13
 |14=> some a14
 |15=> some a15
 |16=> some a16
 |17=> some a17
 |18=> some a18
 |24=> some a24
 |27=> some a27
 |28=> some a28
 |29=> some a29
 |35=> some a35
 |37=> some a37
 |38=> some a38
 |39=> some a39
 |40=> some a40
 |41=> some a41
 |42=> some a42
 |43=> some a43
 |44=> some a44
 |45=> some a45
 |46=> some a46
 |47=> some a47
 |48=> some a48
 |49=> some a49
 |79=> some a79
 |80=> some a80
 |81=> some a81
 |82=> some a82
 |83=> some a83
 |84=> some a84
 |85=> some a85
 |86=> some a86
 |87=> some a87
 |88=> some a88
 |89=> some a89
 |90=> some a90
 |91=> some a91
 |92=> some a92
 |93=> some a93
 |94=> some a94
 |96=> some a96
 |97=> some a97
 |98=> some a98
 |99=> some a99
 |100=> some a100
 |101=> some a101
 |102=> some a102
 |103=> some a103
 |104=> some a104
 |105=> some a105
 |106=> some a106
 |107=> some a107
 |111=> some a111
 |119=> some a119
 |128=> some a128
 |129=> some a129
 |130=> some a130
 |131=> some a131
 |132=> some a132
 |133=> some a133
 |134=> some a134
 |135=> some a135
 |136=> some a136
 |137=> some a137
 |138=> some a138
 |139=> some a139
 |140=> some a140
 |141=> some a141
 |142=> some a142
 |143=> some a143
 |144=> some a144
 |145=> some a145
 |146=> some a146
 |147=> some a147
 |150=> some a150
 |151=> some a151
 |152=> some a152
 |153=> some a153
 |154=> some a154
 |155=> some a155
 |156=> some a156
 |166=> some a166
 |167=> some a167
 |169=> some a169
 |179=> some a179
 |180=> some a180
 |181=> some a181
 |182=> some a182
 |183=> some a183
 |184=> some a184
 |185=> some a185
 |186=> some a186
 |187=> some a187
 |188=> some a188
 |189=> some a189
 |190=> some a190
 |191=> some a191
 |192=> some a192
 |193=> some a193
 |194=> some a194
 |195=> some a195
 |205=> some a205
 |206=> some a206
 |207=> some a207
 |208=> some a208
 |209=> some a209
 |_=> none
theorem qIc:∀f af,forms f=some af->AFOk Tryz.prog ext f af:=by
 intro f af h
 unfold forms at h
 split at h
 ·cases h;exact okZ Tryz.func3
 ·cases h;exact okZ Tryz.func4
 ·cases h;exact okZ Tryz.func8
 ·cases h;exact okZ Tryz.func9
 ·cases h;exact okZ Tryz.func10
 ·cases h;exact okZ Tryz.func11
 ·cases h;exact okZ Tryz.func12
 ·cases h;exact okZ Tryz.func13
 ·cases h;exact okZ Tryz.func14
 ·cases h;exact okZ Tryz.func15
 ·cases h;exact okZ Tryz.func16
 ·cases h;exact okZ Tryz.func17
 ·cases h;exact okZ Tryz.func18
 ·cases h;exact okZ Tryz.func24
 ·cases h;exact okZ Tryz.func27
 ·cases h;exact okZ Tryz.func28
 ·cases h;exact okZ Tryz.func29
 ·cases h;exact okZ Tryz.func35
 ·cases h;exact okZ Tryz.func37
 ·cases h;exact okZ Tryz.func38
 ·cases h;exact okZ Tryz.func39
 ·cases h;exact okZ Tryz.func40
 ·cases h;exact okZ Tryz.func41
 ·cases h;exact okZ Tryz.func42
 ·cases h;exact okZ Tryz.func43
 ·cases h;exact okZ Tryz.func44
 ·cases h;exact okZ Tryz.func45
 ·cases h;exact okZ Tryz.func46
 ·cases h;exact okZ Tryz.func47
 ·cases h;exact okZ Tryz.func48
 ·cases h;exact okZ Tryz.func49
 ·cases h;exact okZ Tryz.func79
 ·cases h;exact okZ Tryz.func80
 ·cases h;exact okZ Tryz.func81
 ·cases h;exact okZ Tryz.func82
 ·cases h;exact okZ Tryz.func83
 ·cases h;exact okZ Tryz.func84
 ·cases h;exact okZ Tryz.func85
 ·cases h;exact okZ Tryz.func86
 ·cases h;exact okZ Tryz.func87
 ·cases h;exact okZ Tryz.func88
 ·cases h;exact okZ Tryz.func89
 ·cases h;exact okZ Tryz.func90
 ·cases h;exact okZ Tryz.func91
 ·cases h;exact okZ Tryz.func92
 ·cases h;exact okZ Tryz.func93
 ·cases h;exact okZ Tryz.func94
 ·cases h;exact okZ Tryz.func96
 ·cases h;exact okZ Tryz.func97
 ·cases h;exact okZ Tryz.func98
 ·cases h;exact okZ Tryz.func99
 ·cases h;exact okZ Tryz.func100
 ·cases h;exact okZ Tryz.func101
 ·cases h;exact okZ Tryz.func102
 ·cases h;exact okZ Tryz.func103
 ·cases h;exact okZ Tryz.func104
 ·cases h;exact okZ Tryz.func105
 ·cases h;exact okZ Tryz.func106
 ·cases h;exact okZ Tryz.func107
 ·cases h;exact okZ Tryz.func111
 ·cases h;exact okZ Tryz.func119
 ·cases h;exact okZ Tryz.func128
 ·cases h;exact okZ Tryz.func129
 ·cases h;exact okZ Tryz.func130
 ·cases h;exact okZ Tryz.func131
 ·cases h;exact okZ Tryz.func132
 ·cases h;exact okZ Tryz.func133
 ·cases h;exact okZ Tryz.func134
 ·cases h;exact okZ Tryz.func135
 ·cases h;exact okZ Tryz.func136
 ·cases h;exact okZ Tryz.func137
 ·cases h;exact okZ Tryz.func138
 ·cases h;exact okZ Tryz.func139
 ·cases h;exact okZ Tryz.func140
 ·cases h;exact okZ Tryz.func141
 ·cases h;exact okZ Tryz.func142
 ·cases h;exact okZ Tryz.func143
 ·cases h;exact okZ Tryz.func144
 ·cases h;exact okZ Tryz.func145
 ·cases h;exact okZ Tryz.func146
 ·cases h;exact okZ Tryz.func147
 ·cases h;exact okZ Tryz.func150
 ·cases h;exact okZ Tryz.func151
 ·cases h;exact okZ Tryz.func152
 ·cases h;exact okZ Tryz.func153
 ·cases h;exact okZ Tryz.func154
 ·cases h;exact okZ Tryz.func155
 ·cases h;exact okZ Tryz.func156
 ·cases h;exact okZ Tryz.func166
 ·cases h;exact okZ Tryz.func167
 ·cases h;exact okZ Tryz.func169
 ·cases h;exact okZ Tryz.func179
 ·cases h;exact okZ Tryz.func180
 ·cases h;exact okZ Tryz.func181
 ·cases h;exact okZ Tryz.func182
 ·cases h;exact okZ Tryz.func183
 ·cases h;exact okZ Tryz.func184
 ·cases h;exact okZ Tryz.func185
 ·cases h;exact okZ Tryz.func186
 ·cases h;exact okZ Tryz.func187
 ·cases h;exact okZ Tryz.func188
 ·cases h;exact okZ Tryz.func189
 ·cases h;exact okZ Tryz.func190
 ·cases h;exact okZ Tryz.func191
 ·cases h;exact okZ Tryz.func192
 ·cases h;exact okZ Tryz.func193
 ·cases h;exact okZ Tryz.func194
 ·cases h;exact okZ Tryz.func195
 ·cases h;exact okZ Tryz.func205
 ·cases h;exact okZ Tryz.func206
 ·cases h;exact okZ Tryz.func207
 ·cases h;exact okZ Tryz.func208
 ·cases h;exact okZ Tryz.func209
 ·cases h
theorem forms3:forms 3=some a3:=rfl
theorem forms4:forms 4=some a4:=rfl
theorem forms8:forms 8=some a8:=rfl
theorem forms9:forms 9=some a9:=rfl
theorem forms10:forms 10=some a10:=rfl
theorem forms11:forms 11=some a11:=rfl
theorem forms12:forms 12=some a12:=rfl
theorem forms13:forms 13=some a13:=rfl
theorem forms14:forms 14=some a14:=rfl
theorem forms15:forms 15=some a15:=rfl
theorem forms16:forms 16=some a16:=rfl
theorem forms17:forms 17=some a17:=rfl
theorem forms18:forms 18=some a18:=rfl
theorem forms24:forms 24=some a24:=rfl
theorem forms27:forms 27=some a27:=rfl
theorem forms28:forms 28=some a28:=rfl
theorem forms29:forms 29=some a29:=rfl
theorem forms35:forms 35=some a35:=rfl
theorem forms37:forms 37=some a37:=rfl
theorem forms38:forms 38=some a38:=rfl
theorem forms39:forms 39=some a39:=rfl
theorem forms40:forms 40=some a40:=rfl
theorem forms41:forms 41=some a41:=rfl
theorem forms42:forms 42=some a42:=rfl
theorem forms43:forms 43=some a43:=rfl
theorem forms44:forms 44=some a44:=rfl
theorem forms45:forms 45=some a45:=rfl
theorem forms46:forms 46=some a46:=rfl
theorem forms47:forms 47=some a47:=rfl
theorem forms48:forms 48=some a48:=rfl
theorem forms49:forms 49=some a49:=rfl
theorem forms79:forms 79=some a79:=rfl
theorem forms80:forms 80=some a80:=rfl
theorem forms81:forms 81=some a81:=rfl
theorem forms82:forms 82=some a82:=rfl
theorem forms83:forms 83=some a83:=rfl
theorem forms84:forms 84=some a84:=rfl
theorem forms85:forms 85=some a85:=rfl
theorem forms86:forms 86=some a86:=rfl
theorem forms87:forms 87=some a87:=rfl
theorem forms88:forms 88=some a88:=rfl
theorem forms89:forms 89=some a89:=rfl
theorem forms90:forms 90=some a90:=rfl
theorem forms91:forms 91=some a91:=rfl
theorem forms92:forms 92=some a92:=rfl
theorem forms93:forms 93=some a93:=rfl
theorem forms94:forms 94=some a94:=rfl
theorem forms96:forms 96=some a96:=rfl
theorem forms97:forms 97=some a97:=rfl
theorem forms98:forms 98=some a98:=rfl
theorem forms99:forms 99=some a99:=rfl
theorem forms100:forms 100=some a100:=rfl
theorem forms101:forms 101=some a101:=rfl
theorem forms102:forms 102=some a102:=rfl
theorem forms103:forms 103=some a103:=rfl
theorem forms104:forms 104=some a104:=rfl
theorem forms105:forms 105=some a105:=rfl
theorem forms106:forms 106=some a106:=rfl
theorem forms107:forms 107=some a107:=rfl
theorem forms111:forms 111=some a111:=rfl
theorem forms119:forms 119=some a119:=rfl
theorem forms128:forms 128=some a128:=rfl
theorem forms129:forms 129=some a129:=rfl
theorem forms130:forms 130=some a130:=rfl
theorem forms131:forms 131=some a131:=rfl
theorem forms132:forms 132=some a132:=rfl
theorem forms133:forms 133=some a133:=rfl
theorem forms134:forms 134=some a134:=rfl
theorem forms135:forms 135=some a135:=rfl
theorem forms136:forms 136=some a136:=rfl
theorem forms137:forms 137=some a137:=rfl
theorem forms138:forms 138=some a138:=rfl
theorem forms139:forms 139=some a139:=rfl
theorem forms140:forms 140=some a140:=rfl
theorem forms141:forms 141=some a141:=rfl
theorem forms142:forms 142=some a142:=rfl
theorem forms143:forms 143=some a143:=rfl
theorem forms144:forms 144=some a144:=rfl
theorem forms145:forms 145=some a145:=rfl
theorem forms146:forms 146=some a146:=rfl
theorem forms147:forms 147=some a147:=rfl
theorem forms150:forms 150=some a150:=rfl
theorem forms151:forms 151=some a151:=rfl
theorem forms152:forms 152=some a152:=rfl
theorem forms153:forms 153=some a153:=rfl
theorem forms154:forms 154=some a154:=rfl
theorem forms155:forms 155=some a155:=rfl
theorem forms156:forms 156=some a156:=rfl
theorem forms166:forms 166=some a166:=rfl
theorem forms167:forms 167=some a167:=rfl
theorem forms169:forms 169=some a169:=rfl
theorem forms179:forms 179=some a179:=rfl
theorem forms180:forms 180=some a180:=rfl
theorem forms181:forms 181=some a181:=rfl
theorem forms182:forms 182=some a182:=rfl
theorem forms183:forms 183=some a183:=rfl
theorem forms184:forms 184=some a184:=rfl
theorem forms185:forms 185=some a185:=rfl
theorem forms186:forms 186=some a186:=rfl
theorem forms187:forms 187=some a187:=rfl
theorem forms188:forms 188=some a188:=rfl
theorem forms189:forms 189=some a189:=rfl
theorem forms190:forms 190=some a190:=rfl
theorem forms191:forms 191=some a191:=rfl
theorem forms192:forms 192=some a192:=rfl
theorem forms193:forms 193=some a193:=rfl
theorem forms194:forms 194=some a194:=rfl
theorem forms195:forms 195=some a195:=rfl
theorem forms205:forms 205=some a205:=rfl
theorem forms206:forms 206=some a206:=rfl
theorem forms207:forms 207=some a207:=rfl
theorem forms208:forms 208=some a208:=rfl
theorem forms209:forms 209=some a209:=rfl
theorem hext:ExtOk Tryz.prog ext:=.one fun args w=> run_callFunc_extern Tryz.func149 (by kernel_rfl) (by kernel_rfl) (by kernel_rfl) (by kernel_rfl) args w
theorem hmix:Tryz.prog.follows .mixedOrders=true:=by kernel_rfl
end YtnemoimbeefngaaGreat
end Go.Proofs
