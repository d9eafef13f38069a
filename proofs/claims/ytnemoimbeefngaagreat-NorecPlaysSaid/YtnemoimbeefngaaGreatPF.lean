/-
  THE FUNCTIONS of this seat in their plain form, and that each is the loaded one's.
-/
import Derived.Test.YtnemoimbeefngaaGreatPF1

set_option maxHeartbeats 32000000
set_option maxRecDepth 100000
namespace Go.Proofs
namespace YtnemoimbeefngaaGreat
open Go.Abs
def b96:AC:=
 (zS [zK 2 (.bool false)]
 (zS [zM 3 0,zO 4 (.bin .andNot (.t 3) (.k (.int .u64 9223372036854775808))),zO 5 (.bin .leq (.t 4) (.k (.int .u64 9218868437227405312))),zM 6 5,zV 7 0 6 false,zG 8 (.bin .eql (.t 7) (.k (.int .u64 9221120237041090560))) 6 false,zO 9 (.pick (.t 6) (.k (.bool true)) (.t 8)),zM 2 9]
 .ret))
def a96:AF:=⟨10,[.t 2],.code b96,none⟩
def b97:AC:=
 (zS [zK 0 (.pointer none)]
 (zS [zO 1 (.build [(.pointer none),(.int .u64 0)] []),zO 2 (.box 152 (.t 1)),zM 0 2]
 .ret))
def a97:AF:=⟨3,[.t 0],.code b97,none⟩
def b98:AC:=
 (zS [zK 2 (.bool false)]
 (zS [zM 4 0,zO 5 (.frombits (.t 4)),zM 3 5]
 (zS [zM 6 3,zM 7 3,zB 8 .eql 6 7,zM 9 8,zV 10 0 9 false,zG 11 (.bin .eql (.t 10) (.k (.int .u64 9221120237041090560))) 9 false,zO 12 (.pick (.t 9) (.k (.bool true)) (.t 11)),zM 2 12]
 .ret)))
def a98:AF:=⟨13,[.t 2],.code b98,none⟩
def b104:AC:=
 (zS [zK 6 (.int .i64 20)]
 (zS [zM 10 6,zK 7 (.int .i64 0),zM 8 10]
 (.seq (.block 0 (.loop (.seq (zS [zM 11 8,zM 12 1,zB 13 .leq 11 12]
  (.cond (.t 13) .skip
  (.exit 0)))
  (.block 1 (zS [zM 14 0,zM 15 7,zM 16 8,zM 17 2,zC 18 (.f 154) [.t 14,.t 15,.t 16,.t 17]]
  (zS [zM 19 8,zM 7 19]
  (.reg [zM 20 8,zM 21 6,zB 22 .add 20 21,zM 8 22])))))))
 (zS [zM 23 0,zM 24 7,zM 25 1,zM 26 2,zC 27 (.f 154) [.t 23,.t 24,.t 25,.t 26]]
 (.block 2 (.loop (.seq (zS [zM 28 6,zM 29 1,zB 30 .lss 28 29]
  (.cond (.t 30) .skip
  (.exit 2)))
  (.block 3 (zS [zM 31 6,zO 32 (.bin .mul (.k (.int .i64 2)) (.t 31)),zK 7 (.int .i64 0),zM 8 32]
  (.seq (.block 4 (.loop (.seq (zS [zM 33 8,zM 34 1,zB 35 .leq 33 34]
   (.cond (.t 35) .skip
   (.exit 4)))
   (.block 5 (zS [zM 36 0,zM 37 7,zM 38 7,zM 39 6,zB 40 .add 38 39,zM 41 8,zM 42 2,zC 43 (.f 155) [.t 36,.t 37,.t 40,.t 41,.t 42]]
   (zS [zM 44 8,zM 7 44]
   (.reg [zM 45 8,zM 46 6,zO 47 (.bin .mul (.k (.int .i64 2)) (.t 46)),zB 48 .add 45 47,zM 8 48])))))))
  (.seq (zS [zM 49 7,zM 50 6,zB 51 .add 49 50,zM 9 51]
  (zS [zM 52 9,zM 53 1,zB 54 .lss 52 53]
  (.cond (.t 54) (.reg [zM 55 0,zM 56 7,zM 57 9,zM 58 1,zM 59 2,zC 60 (.f 155) [.t 55,.t 56,.t 57,.t 58,.t 59]])
  .skip)))
  (.reg [zM 61 6,zO 62 (.bin .mul (.t 61) (.k (.int .i64 2))),zM 6 62]))))))))))))
def a104:AF:=⟨63,[],.code b104,none⟩
def b105:AC:=
 (zS [zK 2 (.bool false)]
 (zS [zM 3 0,zM 4 0,zB 5 .neq 3 4,zM 2 5]
 .ret))
def a105:AF:=⟨6,[.t 2],.code b105,none⟩
def b106:AC:=
 (zS [zK 8 (.bool true)]
 (zS [zK 9 (.bool true)]
 (.block 0 (.loop (.block 1 (zS [zM 19 2,zM 20 1,zB 21 .sub 19 20,zM 10 21]
  (.seq (zS [zM 22 10,zO 23 (.bin .leq (.t 22) (.k (.int .i64 12)))]
  (.cond (.t 23) (zS [zM 24 0,zM 25 1,zM 26 2,zC 27 (.f 156) [.t 24,.t 25,.t 26]]
  .ret)
  .skip))
  (.seq (zS [zM 28 3,zO 29 (.bin .eql (.t 28) (.k (.int .i64 0)))]
  (.cond (.t 29) (zS [zM 30 0,zM 31 1,zM 32 2,zC 33 (.f 157) [.t 30,.t 31,.t 32]]
  .ret)
  .skip))
  (.seq (zS [zM 34 8,zO 35 (.un .not (.t 34))]
  (.cond (.t 35) (zS [zM 36 0,zM 37 1,zM 38 2,zC 39 (.f 158) [.t 36,.t 37,.t 38]]
  (.reg [zM 40 3,zO 41 (.bin .sub (.t 40) (.k (.int .i64 1))),zM 3 41]))
  .skip))
  (zS [zM 43 0,zM 44 1,zM 45 2,zC 46 (.f 159) [.t 43,.t 44,.t 45],zM 42 46,zO 47 (.extract (.t 42) 0),zO 48 (.extract (.t 42) 1),zM 11 47,zM 12 48]
  (.seq (zS [zM 49 12,zO 50 (.bin .eql (.t 49) (.k (.int .i64 2)))]
  (.cond (.t 50) (zS [zM 51 0,zM 52 1,zM 53 2,zC 54 (.f 160) [.t 51,.t 52,.t 53]]
  (zS [zM 55 2,zO 56 (.bin .sub (.t 55) (.k (.int .i64 1))),zM 57 11,zM 58 1,zB 59 .sub 57 58,zB 60 .sub 56 59,zM 11 60]
  (.reg [zK 12 (.int .i64 1)])))
  .skip))
  (.seq (zS [zM 61 8,zM 62 61,zV 63 9 62 true,zO 64 (.pick (.t 62) (.t 63) (.k (.bool false))),zM 65 64,zV 66 12 65 true,zG 67 (.bin .eql (.t 66) (.k (.int .i64 1))) 65 true,zO 68 (.pick (.t 65) (.t 67) (.k (.bool false)))]
  (.cond (.t 68) (zS [zM 69 0,zM 70 1,zM 71 2,zC 72 (.f 161) [.t 69,.t 70,.t 71]]
  (.cond (.t 72) .ret
  .skip))
  .skip))
  (.seq (.seq (.dreg (zQ (zM 73 1) (zQ (zO 74 (.bin .gtr (.t 73) (.k (.int .i64 0)))) (zQ (zM 75 74) (zQ (zV 76 0 75 true) (zQ (zV 77 1 75 true) (zQ (zG 78 (.bin .sub (.t 77) (.k (.int .i64 1))) 75 true) (zQ (zG 79 (.iaddrS 1 (.t 76) (.t 78)) 75 true) (zQ (zG 80 (.load (.t 79)) 75 true) (zQ (zV 81 0 75 true) (zQ (zV 82 11 75 true) (zQ (zG 83 (.iaddrS 1 (.t 81) (.t 82)) 75 true) (zQ (zG 84 (.load (.t 83)) 75 true) (.loud ⟨some 85,(.call (.f 162) [.t 80,.t 84]),(some (75,true))⟩ [] (zQ (zG 86 (.un .not (.t 85)) 75 true) (zQ (zO 87 (.pick (.t 75) (.t 86) (.k (.bool false)))) .nil))))))))))))))))
  (.cond (.t 87) (zS [zM 88 0,zM 89 1,zM 90 2,zM 91 11,zC 92 (.f 163) [.t 88,.t 89,.t 90,.t 91],zM 13 92]
  (zS [zM 93 13,zM 1 93]
  (.exit 1)))
  .skip))
  (zS [zM 95 0,zM 96 1,zM 97 2,zM 98 11,zC 99 (.f 164) [.t 95,.t 96,.t 97,.t 98],zM 94 99,zO 100 (.extract (.t 94) 0),zO 101 (.extract (.t 94) 1),zM 14 100,zM 15 101]
  (zS [zM 102 15,zM 9 102]
  (zS [zM 103 14,zM 104 1,zB 105 .sub 103 104,zM 106 2,zM 107 14,zB 108 .sub 106 107,zM 16 105,zM 17 108]
  (zS [zM 109 10,zO 110 (.bin .quo (.t 109) (.k (.int .i64 8))),zM 18 110]
  (zS [zM 111 16,zM 112 17,zB 113 .lss 111 112]
  (.cond (.t 113) (zS [zM 114 16,zM 115 18,zB 116 .geq 114 115,zM 8 116]
  (zS [zM 117 0,zM 118 1,zM 119 14,zM 120 3,zC 121 (.f 106) [.t 117,.t 118,.t 119,.t 120]]
  (.reg [zM 122 14,zO 123 (.bin .add (.t 122) (.k (.int .i64 1))),zM 1 123])))
  (zS [zM 124 17,zM 125 18,zB 126 .geq 124 125,zM 8 126]
  (zS [zM 127 0,zM 128 14,zO 129 (.bin .add (.t 128) (.k (.int .i64 1))),zM 130 2,zM 131 3,zC 132 (.f 106) [.t 127,.t 129,.t 130,.t 131]]
  (.reg [zM 133 14,zM 2 133]))))))))))))))))))))))
def a106:AF:=⟨134,[],.code b106,none⟩
def b107:AC:=
 (zS [zK 2 (.int .i64 0)]
 (.seq (.cond (.k (.bool false)) (zS [zM 3 0,zO 4 (.conv (.int .u32) (.t 3)),zC 5 (.f 165) [.t 4],zM 2 5]
 .ret)
 .skip)
 (zS [zM 6 0,zC 7 (.f 166) [.t 6],zM 2 7]
 .ret)))
def a107:AF:=⟨8,[.t 2],.code b107,none⟩
def b108:AC:=
 (zS [zK 0 (.pointer none)]
 (zS [zO 1 (.build [(.int .u64 0),(.bool false),(.int .i64 0)] []),zO 2 (.box 168 (.t 1)),zM 0 2]
 .ret))
def a108:AF:=⟨3,[.t 0],.code b108,none⟩
def b109:AC:=
 (zS [zK 4 (.pointer none)]
 (.seq (zS [zM 5 0,zO 6 (.eq false .ptr (.t 5) (.k (.pointer none))),zM 7 6,zV 8 1 7 false,⟨some 9,(.call (.f 116) [.t 8]),(some (7,false))⟩,zG 10 (.bin .neq (.t 9) (.k (.int .i64 0))) 7 false,zO 11 (.pick (.t 7) (.k (.bool true)) (.t 10))]
 (.cond (.t 11) (zS [zK 4 (.pointer none)]
 .ret)
 .skip))
 (zS [zM 12 0,zM 13 1,zU 14 12,zF 15 2 14,zO 16 (.iaddrA 4 1 (.t 15) (.t 13)),zL 17 16,zM 4 17]
 .ret)))
def a109:AF:=⟨18,[.t 4],.code b109,none⟩
def b110:AC:=
 (zS [zK 2 (.slice none 0 0)]
 (.seq (zS [zM 3 0,zO 4 (.eq false .ptr (.t 3) (.k (.pointer none)))]
 (.cond (.t 4) (zS [zK 2 (.slice none 0 0)]
 .ret)
 .skip))
 (zS [zO 5 (.bslice 155 [] 0 []),zM 6 0,zU 7 6,zF 8 0 7,zL 9 8,zO 10 (.append 155 3 24 (.t 5) (.t 9)),zM 2 10]
 .ret)))
def a110:AF:=⟨11,[.t 2],.code b110,none⟩
def b111:AC:=
 (zS [zK 2 (.slice none 0 0)]
 (zS [zK 3 (.slice none 0 0)]
 (.seq (zS [zK 4 (.int .i64 0)]
 (.block 0 (.loop (.seq (zS [zM 7 4,zO 8 (.bin .lss (.t 7) (.k (.int .i64 12)))]
  (.cond (.t 8) .skip
  (.exit 0)))
  (.seq (.block 1 (zS [zM 12 0,zM 13 4,zC 14 (.f 167) [.t 12,.t 13],zM 11 14,zO 15 (.extract (.t 11) 0),zO 16 (.extract (.t 11) 1),zM 5 15,zM 6 16]
  (zS [zM 17 6]
  (.cond (.t 17) (.reg [zM 18 3,zM 19 4,zM 20 5,zO 21 (.build [(.int .i64 0),(.int .u64 0)] [(0,1,(.t 19)),(1,1,(.t 20))]),zO 22 (.bslice 157 [(.int .i64 0),(.int .u64 0)] 1 [(0,2,(.t 21))]),zO 23 (.append 157 2 16 (.t 18) (.t 22)),zM 3 23])
  .skip))))
  (.reg [zM 9 4,zO 10 (.bin .add (.t 9) (.k (.int .i64 1))),zM 4 10]))))))
 (zS [zM 24 3,zM 2 24]
 .ret))))
def a111:AF:=⟨25,[.t 2],.code b111,none⟩
def b112:AC:=
 (zS [zK 2 (.int .i64 0),zK 3 (.bool false)]
 (.seq (zS [zM 4 0,zO 5 (.eq false .ptr (.t 4) (.k (.pointer none))),zM 6 5,zV 7 0 6 false,zG 8 (.nilchk (.t 7)) 6 false,zG 9 (.faddr 1 (.t 8)) 6 false,zG 10 (.load (.t 9)) 6 false,zG 11 (.un .not (.t 10)) 6 false,zO 12 (.pick (.t 6) (.k (.bool true)) (.t 11))]
 (.cond (.t 12) (zS [zK 2 (.int .i64 0),zK 3 (.bool false)]
 .ret)
 .skip))
 (zS [zM 13 0,zU 14 13,zF 15 2 14,zL 16 15,zM 2 16,zK 3 (.bool true)]
 .ret)))
def a112:AF:=⟨17,[.t 2,.t 3],.code b112,none⟩
def b113:AC:=
 (zS [zK 4 (.bool false)]
 (zS [zM 8 0,zM 9 1,zC 10 (.f 168) [.t 8,.t 9],zM 7 10,zO 11 (.extract (.t 7) 0),zO 12 (.extract (.t 7) 1),zM 5 11,zM 6 12]
 (zS [zM 13 0,zO 14 (.eq true .ptr (.t 13) (.k (.pointer none))),zM 15 14,zV 16 6 15 true,zG 17 (.un .not (.t 16)) 15 true,zO 18 (.pick (.t 15) (.t 17) (.k (.bool false))),zM 4 18]
 .ret)))
def a113:AF:=⟨19,[.t 4],.code b113,none⟩
def b114:AC:=
 (zS [zK 2 (.int .u64 0)]
 (.seq (zS [zM 3 0,zO 4 (.eq false .ptr (.t 3) (.k (.pointer none)))]
 (.cond (.t 4) (zS [zK 2 (.int .u64 0)]
 .ret)
 .skip))
 (zS [zM 5 0,zU 6 5,zF 7 0 6,zL 8 7,zM 2 8]
 .ret)))
def a114:AF:=⟨9,[.t 2],.code b114,none⟩
def b116:AC:=
 (zS [zK 2 (.int .i64 0)]
 (.seq (zS [zM 3 0,zO 4 (.bin .lss (.t 3) (.k (.int .i64 0))),zM 5 4,zV 6 0 5 false,zG 7 (.bin .geq (.t 6) (.k (.int .i64 4))) 5 false,zO 8 (.pick (.t 5) (.k (.bool true)) (.t 7))]
 (.cond (.t 8) (zS [zK 2 (.int .i64 2)]
 .ret)
 .skip))
 (zS [zK 2 (.int .i64 0)]
 .ret)))
def a116:AF:=⟨9,[.t 2],.code b116,none⟩
def b117:AC:=
 (zS [zK 2 (.int .u64 0),zK 3 (.int .i64 0)]
 (.seq (.block 0 (zS [zM 5 0,zO 6 (.eq false .ptr (.t 5) (.k (.pointer none))),zM 4 6]
 (.cond (.t 4) (zS [zK 2 (.int .u64 0),zK 3 (.int .i64 1)]
 .ret)
 (zS [zM 8 0,zU 9 8,zF 10 1 9,zL 11 10,zM 7 11]
 (.cond (.t 7) (zS [zK 2 (.int .u64 0),zK 3 (.int .i64 7)]
 .ret)
 .skip)))))
 (zS [zM 12 0,zU 13 12,zF 14 0 13,zL 15 14,zM 2 15,zK 3 (.int .i64 0)]
 .ret)))
def a117:AF:=⟨16,[.t 2,.t 3],.code b117,none⟩
def b118:AC:=
 (zS [zK 0 (.pointer none)]
 (zS [zO 1 (.build [(.slice none 0 0)] []),zO 2 (.box 170 (.t 1)),zM 0 2]
 .ret))
def a118:AF:=⟨3,[.t 0],.code b118,none⟩
def b119:AC:=
 (zS [zK 0 (.pointer none)]
 (zS [zO 1 (.build [(.bool false),(.bool false),(.bool false),(.bool false),(.bool false),(.bool false),(.bool false),(.bool false),(.bool false),(.bool false),(.bool false),(.bool false),(.int .u64 0),(.int .u64 0),(.int .u64 0),(.int .u64 0),(.int .u64 0),(.int .u64 0),(.int .u64 0),(.int .u64 0),(.int .u64 0),(.int .u64 0),(.int .u64 0),(.int .u64 0)] []),zO 2 (.bslice 214 [(.bool false),(.bool false),(.bool false),(.bool false),(.bool false),(.bool false),(.bool false),(.bool false),(.bool false),(.bool false),(.bool false),(.bool false),(.int .u64 0),(.int .u64 0),(.int .u64 0),(.int .u64 0),(.int .u64 0),(.int .u64 0),(.int .u64 0),(.int .u64 0),(.int .u64 0),(.int .u64 0),(.int .u64 0),(.int .u64 0)] 1 [(0,24,(.t 1))]),zO 3 (.build [(.slice none 0 0)] [(0,1,(.t 2))]),zO 4 (.box 173 (.t 3)),zM 0 4]
 .ret))
def a119:AF:=⟨5,[.t 0],.code b119,none⟩
def b120:AC:=
 (zS [zO 3 (.box 84 (.t 1))]
 (.dreg (zQ (zM 4 0) (zQ (zM 6 0) (zQ (zU 7 6) (zQ (zF 8 6 7) (zQ (zL 9 8) (zQ (zO 11 (.loadN 4 (.t 3))) (.both (.loud (zO 5 (.bslice 84 [] 0 [])) [zO 11 (.loadN 4 (.t 3)),zL 9 8] (.both (.loud (zO 10 (.append 84 4 32 (.t 5) (.t 9))) [zO 11 (.loadN 4 (.t 3))] (.loud (zO 12 (.bslice 84 [(.int .u8 0),(.int .i64 0),(.int .i64 0),(.int .u64 0)] 1 [(0,4,(.t 11))])) [zL 9 8] (.loud (zO 13 (.append 84 4 32 (.t 10) (.t 12))) [] (zQ (zU 14 4) (zQ (zF 15 6 14) (.loud (zT 1 15 13) [] .nil))))))
  (.loud (zO 12 (.bslice 84 [(.int .u8 0),(.int .i64 0),(.int .i64 0),(.int .u64 0)] 1 [(0,4,(.t 11))])) [zL 9 8] (.loud (zO 10 (.append 84 4 32 (.t 5) (.t 9))) [zO 11 (.loadN 4 (.t 3))] (.loud (zO 13 (.append 84 4 32 (.t 10) (.t 12))) [] (zQ (zU 14 4) (zQ (zF 15 6 14) (.loud (zT 1 15 13) [] .nil))))))))
  (.loud (zO 12 (.bslice 84 [(.int .u8 0),(.int .i64 0),(.int .i64 0),(.int .u64 0)] 1 [(0,4,(.t 11))])) [zL 9 8] (.loud (zO 5 (.bslice 84 [] 0 [])) [zO 11 (.loadN 4 (.t 3)),zL 9 8] (.loud (zO 10 (.append 84 4 32 (.t 5) (.t 9))) [zO 11 (.loadN 4 (.t 3))] (.loud (zO 13 (.append 84 4 32 (.t 10) (.t 12))) [] (zQ (zU 14 4) (zQ (zF 15 6 14) (.loud (zT 1 15 13) [] .nil))))))))))))))))
def a120:AF:=⟨16,[],.code b120,none⟩
def b121:AC:=
 (zS [zO 3 (.box 51 (.t 0)),zK 6 (.int .i64 0)]
 (zS [zF 8 0 3,zL 9 8,zO 10 (.bin .eql (.t 9) (.k (.int .u8 1))),zM 11 10,zG 12 (.faddr 0 (.t 3)) 11 false,zG 13 (.load (.t 12)) 11 false,zG 14 (.bin .eql (.t 13) (.k (.int .u8 2))) 11 false,zO 15 (.pick (.t 11) (.k (.bool true)) (.t 14)),zM 7 15]
 (.seq (.block 0 (zS [zF 17 0 3,zL 18 17,zO 19 (.bin .eql (.t 18) (.k (.int .u8 0))),zM 20 19,zG 21 (.faddr 0 (.t 3)) 20 false,zG 22 (.load (.t 21)) 20 false,zG 23 (.bin .gtr (.t 22) (.k (.int .u8 7))) 20 false,zO 24 (.pick (.t 20) (.k (.bool true)) (.t 23)),zM 25 24,zV 26 7 25 false,zV 27 26 25 false,zG 28 (.faddr 1 (.t 3)) 27 true,zG 29 (.load (.t 28)) 27 true,zG 30 (.bin .lss (.t 29) (.k (.int .i64 0))) 27 true,zV 31 30 27 true,zG 32 (.faddr 1 (.t 3)) 31 false,zG 33 (.load (.t 32)) 31 false,zV 34 1 31 false,zG 35 (.bin .geq (.t 33) (.t 34)) 31 false,zG 36 (.pick (.t 31) (.k (.bool true)) (.t 35)) 27 true,zG 37 (.pick (.t 27) (.t 36) (.k (.bool false))) 25 false,zO 38 (.pick (.t 25) (.k (.bool true)) (.t 37)),zM 16 38]
 (.cond (.t 16) (zS [zK 6 (.int .i64 2)]
 .ret)
 (zS [zF 40 0 3,zL 41 40,zO 42 (.bin .eql (.t 41) (.k (.int .u8 2))),zM 43 42,zG 44 (.faddr 2 (.t 3)) 43 true,zG 45 (.load (.t 44)) 43 true,⟨some 46,(.call (.f 98) [.t 45]),(some (43,true))⟩,zG 47 (.un .not (.t 46)) 43 true,zO 48 (.pick (.t 43) (.t 47) (.k (.bool false))),zM 39 48]
 (.cond (.t 39) (zS [zK 6 (.int .i64 3)]
 .ret)
 (zS [zF 50 0 3,zL 51 50,zO 52 (.bin .eql (.t 51) (.k (.int .u8 4))),zM 53 52,zG 54 (.faddr 0 (.t 3)) 53 false,zG 55 (.load (.t 54)) 53 false,zG 56 (.bin .eql (.t 55) (.k (.int .u8 5))) 53 false,zO 57 (.pick (.t 53) (.k (.bool true)) (.t 56)),zM 58 57,zV 59 2 58 true,⟨some 60,(.call (.f 169) [.t 59]),(some (58,true))⟩,zG 61 (.bin .eql (.t 60) (.k (.int .i64 0))) 58 true,zO 62 (.pick (.t 58) (.t 61) (.k (.bool false))),zM 49 62]
 (.cond (.t 49) (zS [zK 6 (.int .i64 8)]
 .ret)
 (zS [zF 64 0 3,zL 65 64,zO 66 (.bin .eql (.t 65) (.k (.int .u8 6))),zM 67 66,zV 68 2 67 true,⟨some 69,(.call (.f 169) [.t 68]),(some (67,true))⟩,zG 70 (.bin .gtr (.t 69) (.k (.int .i64 0))) 67 true,zO 71 (.pick (.t 67) (.t 70) (.k (.bool false))),zM 63 71]
 (.cond (.t 63) (zS [zK 6 (.int .i64 8)]
 .ret)
 (zS [zF 73 0 3,zL 74 73,zO 75 (.bin .eql (.t 74) (.k (.int .u8 3))),zM 76 75,zV 77 2 76 true,⟨some 78,(.call (.f 169) [.t 77]),(some (76,true))⟩,zG 79 (.bin .geq (.t 78) (.k (.int .i64 4))) 76 true,zO 80 (.pick (.t 76) (.t 79) (.k (.bool false))),zM 72 80]
 (.cond (.t 72) (zS [zK 6 (.int .i64 4)]
 .ret)
 .skip)))))))))))
 (zS [zK 6 (.int .i64 0)]
 .ret))))
def a121:AF:=⟨81,[.t 6],.code b121,none⟩
def b122:AC:=
 (zS [zO 6 (.alloc 63 [(.bool false),(.int .u64 0),(.bool false),(.int .i64 0),(.bool false),(.int .u8 0),(.int .i64 0)])]
 (.seq (zS [zM 12 2,zU 13 12,zF 14 8 13,zL 15 14]
 (.block 0 (zS [zO 17 (.bin .eql (.t 15) (.k (.int .i64 10))),zM 16 17]
 (.cond (.t 16) (zS [zM 19 0,zU 20 19,zF 21 1 20,zL 22 21,zC 23 (.f 117) [.t 22],zM 18 23,zO 24 (.extract (.t 18) 0),zO 25 (.extract (.t 18) 1),zM 7 24,zM 8 25]
 (.seq (zS [zM 26 8,zO 27 (.bin .neq (.t 26) (.k (.int .i64 0)))]
 (.cond (.t 27) (zS [zM 29 0,zU 30 29,zF 31 1 30,zL 32 31,zC 33 (.f 112) [.t 32],zM 28 33,zO 34 (.extract (.t 28) 0),zO 35 (.extract (.t 28) 1),zM 9 34,zM 10 35]
 (zS [zM 36 9,zO 37 (.build [(.bool false),(.int .u64 0),(.bool false),(.int .i64 0),(.bool false),(.int .u8 0),(.int .i64 0)] [(2,1,(.k (.bool true))),(3,1,(.t 36))]),zT 7 6 37]
 .ret))
 .skip))
 (zS [zM 38 2,zM 39 2,zM 40 2,zM 41 7,zU 42 38,zF 43 11 42,zT 1 43 41,zU 44 39,zF 45 8 44,zN (.store 1 (.t 45) (.k (.int .i64 11))),zU 46 40,zF 47 10 46,zN (.store 1 (.t 47) (.k (.int .i64 0)))]
 (zS [zO 48 (.build [(.bool false),(.int .u64 0),(.bool false),(.int .i64 0),(.bool false),(.int .u8 0),(.int .i64 0)] []),zT 7 6 48]
 .ret))))
 (zS [zO 50 (.bin .eql (.t 15) (.k (.int .i64 11))),zM 49 50]
 (.cond (.t 49) (zS [zM 51 2,zU 52 51,zF 53 2 52,zL 54 53,zC 55 (.f 110) [.t 54],zM 11 55]
 (.seq (zS [zM 56 2,zU 57 56,zF 58 10 57,zL 59 58,zM 60 11,zE 61 60,zB 62 .geq 59 61]
 (.cond (.t 62) (zS [zM 63 2,zU 64 63,zF 65 8 64,zN (.store 1 (.t 65) (.k (.int .i64 12)))]
 (zS [zO 66 (.build [(.bool false),(.int .u64 0),(.bool false),(.int .i64 0),(.bool false),(.int .u8 0),(.int .i64 0)] []),zT 7 6 66]
 .ret))
 .skip))
 (.seq (.seq (.dreg (zQ (zM 67 0) (zQ (zU 68 67) (zQ (zF 69 0 68) (zQ (zL 70 69) (zQ (zM 71 11) (zQ (zM 72 2) (zQ (zU 73 72) (zQ (zF 74 10 73) (zQ (zL 75 74) (zQ (zI 76 3 71 75) (zQ (zF 77 0 76) (zQ (zL 78 77) (zQ (zI 79 1 70 78) (zQ (zL 80 79) (zQ (zM 81 11) (zQ (zM 82 2) (zQ (zU 83 82) (zQ (zF 84 10 83) (zQ (zL 85 84) (zQ (zI 86 3 81 85) (zQ (zF 87 1 86) (zQ (zL 88 87) (.loud (zC 89 (.f 170) [.t 80,.t 88]) [] (zQ (zO 90 (.un .not (.t 89))) .nil)))))))))))))))))))))))))
 (.cond (.t 90) (zS [zM 91 0,zM 92 1,zC 93 (.f 123) [.t 91,.t 92,(.k (.int .u8 1))],zT 7 6 93]
 .ret)
 .skip))
 (zS [zM 94 2,zU 95 94,zF 96 10 95,zL 97 96,zO 98 (.bin .add (.t 97) (.k (.int .i64 1))),zU 99 94,zF 100 10 99,zT 1 100 98]
 (zS [zO 101 (.build [(.bool false),(.int .u64 0),(.bool false),(.int .i64 0),(.bool false),(.int .u8 0),(.int .i64 0)] []),zT 7 6 101]
 .ret)))))
 .skip))))))
 (.seq (.seq (.dreg (zQ (zM 102 0) (zQ (zU 103 102) (zQ (zF 104 1 103) (zQ (zL 105 104) (zQ (zM 106 2) (zQ (zU 107 106) (zQ (zF 108 11 107) (zQ (zL 109 108) (.loud (zC 110 (.f 171) [.t 105,.t 109]) [] (zQ (zO 111 (.un .not (.t 110))) .nil)))))))))))
 (.cond (.t 111) (zS [zM 112 2,zU 113 112,zF 114 8 113,zN (.store 1 (.t 114) (.k (.int .i64 10)))]
 (zS [zO 115 (.build [(.bool false),(.int .u64 0),(.bool false),(.int .i64 0),(.bool false),(.int .u8 0),(.int .i64 0)] []),zT 7 6 115]
 .ret))
 .skip))
 (.seq (.dreg (zQ (zM 116 2) (zQ (zM 117 2) (zQ (zM 118 2) (zQ (zU 119 118) (zQ (zF 120 11 119) (zQ (zL 121 120) (zQ (zM 122 2) (zQ (zU 123 122) (zQ (zF 124 9 123) (zQ (zL 125 124) (zQ (zU 126 116) (zQ (zF 127 1 126) (.loud (zT 1 127 121) [] (zQ (zU 128 117) (zQ (zF 129 8 128) (.loud (zT 1 129 125) [] .nil)))))))))))))))))
 (.seq (.dreg (zQ (zM 130 0) (zQ (zU 131 130) (zQ (zF 132 7 131) (zQ (zL 133 132) (zQ (zM 134 2) (zQ (zU 135 134) (zQ (zF 136 0 135) (zQ (zL 137 136) (zQ (zM 138 2) (zQ (zU 139 138) (zQ (zF 140 1 139) (zQ (zL 141 140) (zQ (zO 142 (.bin .add (.t 141) (.k (.int .u64 1)))) (zQ (zI 143 2 133 137) (zQ (zF 144 0 143) (.loud (zT 1 144 142) [] .nil)))))))))))))))))
 (zS [zO 145 (.build [(.bool false),(.int .u64 0),(.bool false),(.int .i64 0),(.bool false),(.int .u8 0),(.int .i64 0)] []),zT 7 6 145]
 .ret))))))
def a122:AF:=⟨146,[(.c 6 true 7)],.code b122,none⟩
def b123:AC:=
 (zS [zO 6 (.alloc 63 [(.bool false),(.int .u64 0),(.bool false),(.int .i64 0),(.bool false),(.int .u8 0),(.int .i64 0)])]
 (zS [zM 8 0,zM 9 1,zU 10 8,zF 11 2 10,zO 12 (.iaddrA 4 1 (.t 11) (.t 9)),zL 13 12,zU 14 13,zF 15 0 14,zL 16 15,zM 7 16]
 (zS [zM 17 0,zU 18 17,zF 19 1 18,zL 20 19,zM 21 1,zC 22 (.f 172) [.t 20,.t 21]]
 (zS [zM 23 0,zU 24 23,zF 25 7 24,zL 26 25,zM 27 7,zM 28 2,zI 29 2 26 27,zF 30 1 29,zT 1 30 28]
 (zS [zM 31 0,zM 32 1,zU 33 31,zF 34 2 33,zO 35 (.iaddrA 4 1 (.t 34) (.t 32)),zN (.store 1 (.t 35) (.k (.pointer none)))]
 (zS [zM 36 0,zM 37 7,zO 38 (.build [(.int .u8 0),(.int .i64 0),(.int .i64 0),(.int .u64 0)] [(0,1,(.k (.int .u8 9))),(1,1,(.t 37))]),zC 39 (.f 120) [.t 36,.t 38]]
 (zS [zM 40 2,zO 41 (.build [(.bool false),(.int .u64 0),(.bool false),(.int .i64 0),(.bool false),(.int .u8 0),(.int .i64 0)] [(0,1,(.k (.bool true))),(4,1,(.k (.bool true))),(5,1,(.t 40))]),zT 7 6 41]
 .ret)))))))
def a123:AF:=⟨42,[(.c 6 true 7)],.code b123,none⟩
def b124:AC:=
 (zS [zO 6 (.alloc 63 [(.bool false),(.int .u64 0),(.bool false),(.int .i64 0),(.bool false),(.int .u8 0),(.int .i64 0)])]
 (.seq (.seq (.dreg (zQ (zM 10 2) (zQ (zU 11 10) (zQ (zF 12 3 11) (zQ (zL 13 12) (zQ (zM 14 2) (zQ (zU 15 14) (zQ (zF 16 5 15) (zQ (zF 17 1 16) (zQ (zL 18 17) (.loud (zC 19 (.f 167) [.t 13,.t 18]) [] (zQ (zM 9 19) (zQ (zO 20 (.extract (.t 9) 0)) (zQ (zO 21 (.extract (.t 9) 1)) (.loud (zM 7 20) [] (.loud (zM 8 21) [] .nil))))))))))))))))
 (zS [zM 22 8]
 (.cond (.t 22) (zS [zM 23 0,zM 24 2,zM 25 7,zC 26 (.f 173) [.t 23,.t 24,.t 25],zT 7 6 26]
 .ret)
 .skip)))
 (.seq (zS [zM 27 2,zU 28 27,zF 29 8 28,zL 30 29,zO 31 (.bin .eql (.t 30) (.k (.int .i64 0)))]
 (.cond (.t 31) (.seq (.dreg (zQ (zM 32 2) (zQ (zM 33 2) (zQ (zM 34 0) (zQ (zU 35 34) (zQ (zF 36 0 35) (zQ (zL 37 36) (zQ (zM 38 2) (zQ (zU 39 38) (zQ (zF 40 5 39) (zQ (zF 41 1 40) (zQ (zL 42 41) (zQ (zI 43 1 37 42) (zQ (zL 44 43) (zQ (zU 45 32) (zQ (zF 46 12 45) (.loud (zT 1 46 44) [] (zQ (zU 47 33) (zQ (zF 48 8 47) (.loud (zN (.store 1 (.t 48) (.k (.int .i64 1)))) [] .nil))))))))))))))))))))
 (zS [zO 49 (.build [(.bool false),(.int .u64 0),(.bool false),(.int .i64 0),(.bool false),(.int .u8 0),(.int .i64 0)] []),zT 7 6 49]
 .ret))
 .skip))
 (.seq (.seq (.dreg (zQ (zM 50 0) (zQ (zU 51 50) (zQ (zF 52 1 51) (zQ (zL 53 52) (zQ (zM 54 2) (zQ (zU 55 54) (zQ (zF 56 1 55) (zQ (zL 57 56) (.loud (zC 58 (.f 171) [.t 53,.t 57]) [] (zQ (zO 59 (.un .not (.t 58))) .nil)))))))))))
 (.cond (.t 59) (zS [zM 60 2,zC 61 (.f 174) [.t 60,(.k (.int .i64 0))],zT 7 6 61]
 .ret)
 .skip))
 (.seq (.seq (.dreg (zQ (zM 62 2) (zQ (zU 63 62) (zQ (zF 64 2 63) (zQ (zL 65 64) (zQ (zM 66 2) (zQ (zU 67 66) (zQ (zF 68 5 67) (zQ (zF 69 1 68) (zQ (zL 70 69) (zQ (zM 71 2) (zQ (zU 72 71) (zQ (zF 73 12 72) (zQ (zL 74 73) (zQ (zO 75 (.build [(.int .i64 0),(.int .u64 0),(.int .u64 0)] [(0,1,(.t 70)),(1,1,(.t 74))])) (.loud (zC 76 (.f 175) [.t 65,.t 75]) [] (zQ (zO 77 (.bin .neq (.t 76) (.k (.int .i64 0)))) .nil)))))))))))))))))
 (.cond (.t 77) (zS [zM 78 0,zM 79 1,zC 80 (.f 123) [.t 78,.t 79,(.k (.int .u8 2))],zT 7 6 80]
 .ret)
 .skip))
 (zS [zM 81 0,zM 82 2,zM 83 2,zU 84 83,zF 85 12 84,zL 86 85,zC 87 (.f 173) [.t 81,.t 82,.t 86],zT 7 6 87]
 .ret))))))
def a124:AF:=⟨88,[(.c 6 true 7)],.code b124,none⟩
def b125:AC:=
 (zS [zO 6 (.alloc 63 [(.bool false),(.int .u64 0),(.bool false),(.int .i64 0),(.bool false),(.int .u8 0),(.int .i64 0)])]
 (zS [zM 8 2,zU 9 8,zF 10 3 9,zL 11 10,zC 12 (.f 111) [.t 11],zM 7 12]
 (.seq (zS [zM 13 2,zU 14 13,zF 15 8 14,zL 16 15]
 (.block 0 (zS [zO 18 (.bin .eql (.t 16) (.k (.int .i64 0))),zM 17 18]
 (.cond (.t 17) (zS [zM 19 0,zM 20 2,zU 21 20,zF 22 0 21,zL 23 22,zO 24 (.build [(.int .u8 0),(.int .i64 0),(.int .i64 0),(.int .u64 0)] [(0,1,(.k (.int .u8 7))),(1,1,(.t 23))]),zC 25 (.f 120) [.t 19,.t 24]]
 (.seq (zS [zM 26 7,zE 27 26,zO 28 (.bin .eql (.t 27) (.k (.int .i64 0)))]
 (.cond (.t 28) (zS [zM 29 0,zM 30 1,zC 31 (.f 176) [.t 29,.t 30],zT 7 6 31]
 .ret)
 .skip))
 (zS [zM 32 2,zU 33 32,zF 34 8 33,zN (.store 1 (.t 34) (.k (.int .i64 1)))]
 (zS [zO 35 (.build [(.bool false),(.int .u64 0),(.bool false),(.int .i64 0),(.bool false),(.int .u8 0),(.int .i64 0)] []),zT 7 6 35]
 .ret))))
 (zS [zO 37 (.bin .eql (.t 16) (.k (.int .i64 1))),zM 36 37]
 (.cond (.t 36) (.seq (.dreg (zQ (zM 38 0) (zQ (zU 39 38) (zQ (zF 40 1 39) (zQ (zL 41 40) (zQ (zM 42 1) (zQ (zM 43 2) (zQ (zU 44 43) (zQ (zF 45 1 44) (zQ (zL 46 45) (.loud (zC 47 (.f 177) [.t 41,.t 42,.t 46]) [] .nil)))))))))))
 (.block 1 (zS [zO 51 (.bin .eql (.t 47) (.k (.int .i64 0))),zM 50 51]
 (.cond (.t 50) (zS [zM 52 2,zM 53 2,zM 54 2,zU 55 52,zF 56 13 55,zN (.store 1 (.t 56) (.k (.bool true))),zU 57 53,zF 58 8 57,zN (.store 1 (.t 58) (.k (.int .i64 2))),zU 59 54,zF 60 10 59,zN (.store 1 (.t 60) (.k (.int .i64 0)))]
 (.seq (.dreg (zQ (zM 61 0) (zQ (zU 62 61) (zQ (zF 63 7 62) (zQ (zL 64 63) (zQ (zM 65 2) (zQ (zU 66 65) (zQ (zF 67 0 66) (zQ (zL 68 67) (zQ (zM 69 2) (zQ (zU 70 69) (zQ (zF 71 1 70) (zQ (zL 72 71) (zQ (zO 73 (.bin .add (.t 72) (.k (.int .u64 2)))) (zQ (zI 74 2 64 68) (zQ (zF 75 0 74) (.loud (zT 1 75 73) [] .nil)))))))))))))))))
 (zS [zO 76 (.build [(.bool false),(.int .u64 0),(.bool false),(.int .i64 0),(.bool false),(.int .u8 0),(.int .i64 0)] []),zT 7 6 76]
 .ret)))
 (zS [zO 78 (.bin .eql (.t 47) (.k (.int .i64 4))),zM 77 78]
 (.cond (.t 77) (zS [zM 79 0,zM 80 1,zC 81 (.f 123) [.t 79,.t 80,(.k (.int .u8 2))],zT 7 6 81]
 .ret)
 (zS [zM 48 2,zC 49 (.f 174) [.t 48,(.k (.int .i64 1))],zT 7 6 49]
 .ret)))))))
 (zS [zO 83 (.bin .eql (.t 16) (.k (.int .i64 2))),zM 82 83]
 (.cond (.t 82) (.seq (.dreg (zQ (zM 84 0) (zQ (zU 85 84) (zQ (zF 86 0 85) (zQ (zL 87 86) (zQ (zM 88 7) (zQ (zM 89 2) (zQ (zU 90 89) (zQ (zF 91 10 90) (zQ (zL 92 91) (zQ (zI 93 2 88 92) (zQ (zF 94 0 93) (zQ (zL 95 94) (zQ (zM 96 7) (zQ (zM 97 2) (zQ (zU 98 97) (zQ (zF 99 10 98) (zQ (zL 100 99) (zQ (zI 101 2 96 100) (zQ (zF 102 1 101) (zQ (zL 103 102) (zQ (zI 104 1 87 95) (.loud (zT 1 104 103) [] .nil)))))))))))))))))))))))
 (zS [zM 105 2,zU 106 105,zF 107 10 106,zL 108 107,zO 109 (.bin .add (.t 108) (.k (.int .i64 1))),zU 110 105,zF 111 10 110,zT 1 111 109]
 (.seq (zS [zM 112 2,zU 113 112,zF 114 10 113,zL 115 114,zM 116 7,zE 117 116,zB 118 .eql 115 117]
 (.cond (.t 118) (.reg [zM 119 2,zU 120 119,zF 121 8 120,zN (.store 1 (.t 121) (.k (.int .i64 3)))])
 .skip))
 (zS [zO 122 (.build [(.bool false),(.int .u64 0),(.bool false),(.int .i64 0),(.bool false),(.int .u8 0),(.int .i64 0)] []),zT 7 6 122]
 .ret))))
 .skip))))))))
 (zS [zM 123 0,zU 124 123,zF 125 1 124,zL 126 125,zM 127 1,zC 128 (.f 178) [.t 126,.t 127]]
 (zS [zM 129 0,zM 130 1,zC 131 (.f 176) [.t 129,.t 130],zT 7 6 131]
 .ret)))))
def a125:AF:=⟨132,[(.c 6 true 7)],.code b125,none⟩
def b126:AC:=
 (zS [zO 3 (.box 51 (.t 1)),zK 4 (.bool false)]
 (.seq (zS [zF 5 0 3,zL 6 5]
 (.block 0 (zS [zO 8 (.bin .eql (.t 6) (.k (.int .u8 3))),zM 7 8]
 (.cond (.t 7) (.reg [zM 9 0,zC 10 (.f 179) [.t 9]])
 (zS [zO 12 (.bin .eql (.t 6) (.k (.int .u8 4))),zM 11 12]
 (.cond (.t 11) (.reg [zM 13 0,zC 14 (.f 180) [.t 13]])
 (zS [zO 16 (.bin .eql (.t 6) (.k (.int .u8 5))),zM 15 16]
 (.cond (.t 15) (.reg [zM 17 0,zC 18 (.f 181) [.t 17]])
 (zS [zO 20 (.bin .eql (.t 6) (.k (.int .u8 2))),zM 19 20]
 (.cond (.t 19) (zS [zM 21 0,zF 22 1 3,zL 23 22,zF 24 2 3,zL 25 24,zC 26 (.f 182) [.t 21,.t 23,.t 25],zO 27 (.bin .eql (.t 26) (.k (.int .i64 0))),zM 4 27]
 .ret)
 .skip))))))))))
 (zS [zK 4 (.bool true)]
 .ret)))
def a126:AF:=⟨28,[.t 4],.code b126,none⟩
def b127:AC:=
 (zS [zO 3 (.box 51 (.t 1)),zO 4 (.alloc 84 [(.int .u8 0),(.int .i64 0),(.int .i64 0),(.int .u64 0)])]
 (.seq (zS [zF 5 0 3,zL 6 5]
 (.block 0 (zS [zO 8 (.bin .eql (.t 6) (.k (.int .u8 3))),zM 7 8]
 (.cond (.t 7) (zS [zM 9 0,zO 10 (.build [(.int .u8 0),(.int .i64 0),(.int .i64 0),(.int .u64 0)] [(0,1,(.k (.int .u8 4))),(1,1,(.t 9))]),zT 4 4 10]
 .ret)
 (zS [zO 12 (.bin .eql (.t 6) (.k (.int .u8 4))),zM 11 12]
 (.cond (.t 11) (zS [zM 13 0,zO 14 (.build [(.int .u8 0),(.int .i64 0),(.int .i64 0),(.int .u64 0)] [(0,1,(.k (.int .u8 5))),(1,1,(.t 13))]),zT 4 4 14]
 .ret)
 (zS [zO 16 (.bin .eql (.t 6) (.k (.int .u8 5))),zM 15 16]
 (.cond (.t 15) (zS [zM 17 0,zO 18 (.build [(.int .u8 0),(.int .i64 0),(.int .i64 0),(.int .u64 0)] [(0,1,(.k (.int .u8 6))),(1,1,(.t 17))]),zT 4 4 18]
 .ret)
 .skip))))))))
 (zS [zM 19 0,zF 20 1 3,zL 21 20,zF 22 2 3,zL 23 22,zO 24 (.build [(.int .u8 0),(.int .i64 0),(.int .i64 0),(.int .u64 0)] [(0,1,(.k (.int .u8 3))),(1,1,(.t 19)),(2,1,(.t 21)),(3,1,(.t 23))]),zT 4 4 24]
 .ret)))
def a127:AF:=⟨25,[(.c 4 true 4)],.code b127,none⟩
def b128:AB:=
 (.thn (.reg [zO 2 (.alloc 26 [(.int .i64 0)])])
 (.dfr [⟨(some 3),(.op (.mkfunc 183 [] [(.t 2)])),none⟩] (.t 3)
 (zS [zM 4 0,zC 5 (.t 4) []]
 (zS [zN (.store 1 (.t 2) (.k (.int .i64 0)))]
 .ret))))
def a128:AF:=⟨6,[(.c 2 false 1)],b128,none⟩
def b129:AC:=
 (zS [zL 2 0,zO 3 (.eq true .ptr (.t 2) (.k (.pointer none))),zC 4 (.f 130) [.t 3,(.k (.int .i64 1))]]
 (zS [zL 5 0,zU 6 5,zF 7 0 6,zL 8 7,zO 9 (.eq false .ptr (.t 8) (.k (.pointer none))),zC 10 (.f 130) [.t 9,(.k (.int .i64 7))]]
 (.reg [zL 11 0,zU 12 11,zF 13 1 12,zL 14 13,zT 1 1 14])))
def a129:AF:=⟨15,[],.code b129,none⟩
def b130:AC:=
 (zS [zM 4 0,zO 5 (.un .not (.t 4))]
 (.cond (.t 5) (.reg [zM 6 1,zO 7 (.build [(.int .i64 0)] [(0,1,(.t 6))]),zO 8 (.mkiface 218 (.t 7)),⟨none,(.panic (.t 8)),none⟩])
 .skip))
def a130:AF:=⟨9,[],.code b130,none⟩
def b131:AC:=
 (zS [zK 4 (.pointer none)]
 (zS [zM 5 1,zM 6 0,zO 7 (.build [(.slice none 0 0),(.pointer none)] [(0,1,(.t 5)),(1,1,(.t 6))]),zO 8 (.box 220 (.t 7)),zM 4 8]
 .ret))
def a131:AF:=⟨9,[.t 4],.code b131,none⟩
def b132:AC:=
 (zS [zK 2 (.int .i64 0)]
 (.seq (zS [zM 3 0,zO 4 (.eq false .ptr (.t 3) (.k (.pointer none)))]
 (.cond (.t 4) (zS [zK 2 (.int .i64 0)]
 .ret)
 .skip))
 (zS [zM 5 0,zU 6 5,zF 7 1 6,zL 8 7,zM 2 8]
 .ret)))
def a132:AF:=⟨9,[.t 2],.code b132,none⟩
def b133:AC:=
 (zS [zK 4 (.bool false)]
 (zS [zM 5 0,zC 6 (.f 184) [.t 5],zM 7 1,zC 8 (.f 184) [.t 7],zB 9 .eql 6 8,zM 4 9]
 .ret))
def a133:AF:=⟨10,[.t 4],.code b133,none⟩
def b134:AC:=
 (zS [zK 4 (.bool false)]
 (zS [zM 5 0,zO 6 (.eq true .ptr (.t 5) (.k (.pointer none))),zM 7 6,zV 8 0 7 true,zG 9 (.nilchk (.t 8)) 7 true,zG 10 (.faddr 1 (.t 9)) 7 true,zG 11 (.load (.t 10)) 7 true,zV 12 1 7 true,zG 13 (.bin .eql (.t 11) (.t 12)) 7 true,zO 14 (.pick (.t 7) (.t 13) (.k (.bool false))),zM 4 14]
 .ret))
def a134:AF:=⟨15,[.t 4],.code b134,none⟩
def b135:AC:=
 (zS [zK 4 (.int .i64 0)]
 (zS [zM 5 0,zM 6 1,zC 7 (.f 185) [.t 5,.t 6,.f 186],zM 4 7]
 .ret))
def a135:AF:=⟨8,[.t 4],.code b135,none⟩
def b136:AC:=
 (zS [zO 4 (.alloc 63 [(.bool false),(.int .u64 0),(.bool false),(.int .i64 0),(.bool false),(.int .u8 0),(.int .i64 0)])]
 (zS [zM 5 0,zM 6 0,zU 7 6,zF 8 2 7,zL 9 8,zM 10 1,zO 11 (.lookup false (.pointer none) false (.t 9) (.t 10)),zU 12 11,zF 13 2 12,zL 14 13,zO 15 (.build [(.int .u8 0),(.int .i64 0),(.int .i64 0),(.int .u64 0)] [(0,1,(.k (.int .u8 8))),(1,1,(.t 14))]),zC 16 (.f 83) [.t 5,.t 15]]
 (zS [zM 17 0,zU 18 17,zF 19 2 18,zL 20 19,zM 21 1,zN (.delete false (.t 20) (.t 21))]
 (zS [zO 22 (.build [(.bool false),(.int .u64 0),(.bool false),(.int .i64 0),(.bool false),(.int .u8 0),(.int .i64 0)] [(0,1,(.k (.bool true))),(4,1,(.k (.bool true)))]),zT 7 4 22]
 .ret))))
def a136:AF:=⟨23,[(.c 4 true 7)],.code b136,none⟩
def b137:AC:=
 (zS [zO 3 (.box 85 (.t 0)),zO 4 (.box 3 (.t 1)),zO 5 (.box 38 (.t 2)),zK 6 (.int .i64 0)]
 (zS [zO 7 (.mkfunc 187 [] [.t 3,.t 4,.t 5]),zC 8 (.f 128) [.t 7],zM 6 8]
 .ret))
def a137:AF:=⟨9,[.t 6],.code b137,none⟩
def b138:AC:=
 (zS [zO 4 (.alloc 63 [(.bool false),(.int .u64 0),(.bool false),(.int .i64 0),(.bool false),(.int .u8 0),(.int .i64 0)])]
 (zS [zM 5 0,zM 6 0,zM 7 1,zU 8 5,zF 9 7 8,zN (.store 1 (.t 9) (.k (.int .i64 4))),zU 10 6,zF 11 8 10,zT 1 11 7]
 (zS [zO 12 (.build [(.bool false),(.int .u64 0),(.bool false),(.int .i64 0),(.bool false),(.int .u8 0),(.int .i64 0)] []),zT 7 4 12]
 .ret)))
def a138:AF:=⟨13,[(.c 4 true 7)],.code b138,none⟩
def b139:AC:=
 (zS [zK 4 (.int .i64 0)]
 (zS [zM 5 0,zM 6 1,zC 7 (.f 185) [.t 5,.t 6,.f 188],zM 4 7]
 .ret))
def a139:AF:=⟨8,[.t 4],.code b139,none⟩
def b140:AC:=
 (zS [zO 1 (.box 164 (.t 0)),zK 2 .nilFunc]
 (zS [zO 3 (.mkfunc 189 [] [.t 1]),zM 2 3]
 .ret))
def a140:AF:=⟨4,[.t 2],.code b140,none⟩
def b141:AC:=
 (zS [zK 4 (.int .u64 0),zK 5 (.bool false)]
 (.seq (zS [zM 8 0,zE 9 8,zK 10 (.int .i64 0)]
 (.block 0 (.loop (zS [zB 11 .lss 10 9]
  (.seq (.cond (.t 11) .skip
  (.exit 0))
  (.seq (.block 1 (zS [zI 12 2 8 10,zO 13 (.loadN 2 (.t 12)),zO 7 (.alloc 157 [(.int .i64 0),(.int .u64 0)]),zT 2 7 13]
  (zS [zF 14 0 7,zL 15 14,zM 16 1,zB 17 .eql 15 16]
  (.cond (.t 17) (zS [zF 18 1 7,zL 19 18,zM 4 19,zK 5 (.bool true)]
  .ret)
  .skip))))
  (.reg [zO 20 (.bin .add (.t 10) (.k (.int .i64 1))),zM 10 20])))))))
 (zS [zK 4 (.int .u64 0),zK 5 (.bool false)]
 .ret)))
def a141:AF:=⟨21,[.t 4,.t 5],.code b141,none⟩
def b142:AC:=
 (zS [zO 4 (.alloc 63 [(.bool false),(.int .u64 0),(.bool false),(.int .i64 0),(.bool false),(.int .u8 0),(.int .i64 0)])]
 (zS [zM 5 0,zO 6 (.build [(.int .u8 0),(.int .i64 0),(.int .u64 0)] []),zU 7 5,zF 8 4 7,zT 3 8 6]
 (zS [zM 9 1,zO 10 (.build [(.bool false),(.int .u64 0),(.bool false),(.int .i64 0),(.bool false),(.int .u8 0),(.int .i64 0)] [(0,1,(.k (.bool true))),(1,1,(.t 9))]),zT 7 4 10]
 .ret)))
def a142:AF:=⟨11,[(.c 4 true 7)],.code b142,none⟩
def b143:AC:=
 (zS [zO 3 (.box 155 (.t 1)),zK 4 (.int .i64 0)]
 (.seq (.block 0 (zS [zM 8 0,zO 9 (.eq false .ptr (.t 8) (.k (.pointer none))),zM 7 9]
 (.cond (.t 7) (zS [zK 4 (.int .i64 1)]
 .ret)
 (zS [zF 11 0 3,zL 12 11,zO 13 (.bin .lss (.t 12) (.k (.int .i64 0))),zM 14 13,zG 15 (.faddr 0 (.t 3)) 14 false,zG 16 (.load (.t 15)) 14 false,zG 17 (.bin .geq (.t 16) (.k (.int .i64 12))) 14 false,zO 18 (.pick (.t 14) (.k (.bool true)) (.t 17)),zM 19 18,zG 20 (.faddr 2 (.t 3)) 19 false,zG 21 (.load (.t 20)) 19 false,zG 22 (.bin .gtr (.t 21) (.k (.int .u64 1099511627776))) 19 false,zO 23 (.pick (.t 19) (.k (.bool true)) (.t 22)),zM 10 23]
 (.cond (.t 10) (zS [zK 4 (.int .i64 2)]
 .ret)
 (zS [zF 25 1 3,zL 26 25,zC 27 (.f 96) [.t 26],zO 28 (.un .not (.t 27)),zM 24 28]
 (.cond (.t 24) (zS [zK 4 (.int .i64 3)]
 .ret)
 .skip)))))))
 (.seq (.seq (.dreg (zQ (zM 30 0) (zQ (zU 31 30) (zQ (zF 32 1 31) (zQ (zL 33 32) (zQ (zF 34 0 3) (zQ (zL 35 34) (zQ (zO 36 (.lookup false (.agg #[(.int .i64 0),(.int .u64 0),(.int .u64 0)]) true (.t 33) (.t 35))) (zQ (zM 29 36) (zQ (zO 37 (.extract (.t 29) 0)) (zQ (zO 38 (.extract (.t 29) 1)) (.loud (zO 5 (.alloc 155 [(.int .i64 0),(.int .u64 0),(.int .u64 0)])) [zO 36 (.lookup false (.agg #[(.int .i64 0),(.int .u64 0),(.int .u64 0)]) true (.t 33) (.t 35)),zL 35 34,zL 33 32] (.loud (zT 3 5 37) [] (.loud (zM 6 38) [] .nil))))))))))))))
 (zS [zM 39 6]
 (.cond (.t 39) (zS [zK 4 (.int .i64 0)]
 .ret)
 .skip)))
 (.seq (zS [zM 40 0,zU 41 40,zF 42 0 41,zL 43 42,zE 44 43,zO 45 (.bin .geq (.t 44) (.k (.int .i64 8)))]
 (.cond (.t 45) (zS [zK 4 (.int .i64 4)]
 .ret)
 .skip))
 (.seq (.dreg (zQ (zM 46 0) (zQ (zM 47 0) (zQ (zU 48 47) (zQ (zF 49 0 48) (zQ (zL 50 49) (zQ (zF 51 0 3) (zQ (zL 52 51) (.loud (zO 53 (.bslice 3 [(.int .i64 0)] 1 [(0,1,(.t 52))])) [zL 50 49] (.loud (zO 54 (.append 3 1 8 (.t 50) (.t 53))) [] (zQ (zU 55 46) (zQ (zF 56 0 55) (.loud (zT 1 56 54) [] .nil)))))))))))))
 (.seq (.dreg (zQ (zM 57 0) (zQ (zU 58 57) (zQ (zF 59 1 58) (zQ (zL 60 59) (zQ (zF 61 0 3) (zQ (zL 62 61) (zQ (zO 63 (.loadN 3 (.t 3))) (.loud (zN (.mapupd false (.t 60) (.t 62) (.t 63))) [] .nil)))))))))
 (zS [zK 4 (.int .i64 0)]
 .ret)))))))
def a143:AF:=⟨64,[.t 4],.code b143,none⟩
def b144:AC:=
 (zS [zK 2 (.int .i64 0)]
 (.seq (.block 0 (zS [zM 4 0,zO 5 (.eq false .ptr (.t 4) (.k (.pointer none))),zM 3 5]
 (.cond (.t 3) (zS [zK 2 (.int .i64 1)]
 .ret)
 (zS [zM 7 0,zU 8 7,zF 9 1 8,zL 10 9,zO 11 (.bin .geq (.t 10) (.k (.int .i64 4))),zM 6 11]
 (.cond (.t 6) (zS [zK 2 (.int .i64 4)]
 .ret)
 .skip)))))
 (zS [zM 12 0,zM 13 0,zU 14 13,zF 15 0 14,zL 16 15,zC 17 (.f 131) [.t 16,(.k (.slice none 0 0))],zU 18 12,zF 19 0 18,zT 1 19 17]
 (zS [zM 20 0,zU 21 20,zF 22 1 21,zL 23 22,zO 24 (.bin .add (.t 23) (.k (.int .i64 1))),zU 25 20,zF 26 1 25,zT 1 26 24]
 (zS [zK 2 (.int .i64 0)]
 .ret)))))
def a144:AF:=⟨27,[.t 2],.code b144,none⟩
def b145:AC:=
 (zS [zK 2 (.int .i64 0)]
 (zS [zM 6 0,zC 7 (.f 190) [.t 6],zM 5 7,zO 8 (.extract (.t 5) 0),zO 9 (.extract (.t 5) 1),zM 3 8,zM 4 9]
 (zS [zM 10 4,zM 2 10]
 .ret)))
def a145:AF:=⟨11,[.t 2],.code b145,none⟩
def b146:AC:=
 (zS [zK 2 (.int .i64 0)]
 (zS [zM 9 0,zC 10 (.f 190) [.t 9],zM 8 10,zO 11 (.extract (.t 8) 0),zO 12 (.extract (.t 8) 1),zM 3 11,zM 4 12]
 (.seq (zS [zM 13 4,zO 14 (.bin .neq (.t 13) (.k (.int .i64 0)))]
 (.cond (.t 14) (zS [zM 15 4,zM 2 15]
 .ret)
 .skip))
 (zS [zM 16 0,zU 17 16,zF 18 0 17,zL 19 18,zU 20 19,zF 21 0 20,zL 22 21,zM 5 22]
 (.seq (zS [zM 23 3,zE 24 23,zK 25 (.int .i64 0)]
 (.block 0 (.loop (zS [zB 26 .lss 25 24]
  (.seq (.cond (.t 26) .skip
  (.exit 0))
  (.seq (.block 1 (zS [zI 27 2 23 25,zO 28 (.loadN 2 (.t 27)),zO 7 (.alloc 157 [(.int .i64 0),(.int .u64 0)]),zT 2 7 28]
  (.reg [zM 29 5,zO 30 (.loadN 2 (.t 7)),zC 31 (.f 191) [.t 29,.t 30],zM 5 31])))
  (.reg [zO 32 (.bin .add (.t 25) (.k (.int .i64 1))),zM 25 32])))))))
 (zS [zM 33 0,zM 34 0,zU 35 34,zF 36 0 35,zL 37 36,zU 38 37,zF 39 1 38,zL 40 39,zM 41 5,zC 42 (.f 131) [.t 40,.t 41],zU 43 33,zF 44 0 43,zT 1 44 42]
 (zS [zK 2 (.int .i64 0)]
 .ret)))))))
def a146:AF:=⟨45,[.t 2],.code b146,none⟩
def b147:AC:=
 (zS [zK 6 (.int .i64 0)]
 (.seq (.block 0 (zS [zM 10 0,zO 11 (.eq false .ptr (.t 10) (.k (.pointer none))),zM 9 11]
 (.cond (.t 9) (zS [zK 6 (.int .i64 1)]
 .ret)
 (zS [zM 13 1,zO 14 (.bin .lss (.t 13) (.k (.int .i64 0))),zM 15 14,zV 16 1 15 false,zG 17 (.bin .geq (.t 16) (.k (.int .i64 12))) 15 false,zO 18 (.pick (.t 15) (.k (.bool true)) (.t 17)),zM 12 18]
 (.cond (.t 12) (zS [zK 6 (.int .i64 2)]
 .ret)
 (zS [zM 20 2,zC 21 (.f 96) [.t 20],zO 22 (.un .not (.t 21)),zM 19 22]
 (.cond (.t 19) (zS [zK 6 (.int .i64 3)]
 .ret)
 .skip)))))))
 (.seq (zS [zM 24 0,zU 25 24,zF 26 0 25,zL 27 26,zU 28 27,zF 29 0 28,zL 30 29,zM 31 1,zC 32 (.f 141) [.t 30,.t 31],zM 23 32,zO 33 (.extract (.t 23) 0),zO 34 (.extract (.t 23) 1),zM 7 33,zM 8 34]
 (zS [zM 35 8,zO 36 (.un .not (.t 35)),zM 37 36,zV 38 0 37 true,⟨some 39,(.call (.f 192) [.t 38]),(some (37,true))⟩,zG 40 (.bin .geq (.t 39) (.k (.int .i64 16))) 37 true,zO 41 (.pick (.t 37) (.t 40) (.k (.bool false)))]
 (.cond (.t 41) (zS [zK 6 (.int .i64 4)]
 .ret)
 .skip)))
 (.seq (.dreg (zQ (zM 42 0) (zQ (zM 43 0) (zQ (zU 44 43) (zQ (zF 45 0 44) (zQ (zL 46 45) (zQ (zU 47 46) (zQ (zF 48 1 47) (zQ (zL 49 48) (zQ (zM 50 0) (zQ (zU 51 50) (zQ (zF 52 0 51) (zQ (zL 53 52) (zQ (zU 54 53) (zQ (zF 55 0 54) (zQ (zL 56 55) (zQ (zM 57 1) (zQ (zM 58 2) (zQ (zO 59 (.build [(.int .i64 0),(.int .u64 0)] [(0,1,(.t 57)),(1,1,(.t 58))])) (.loud (zC 60 (.f 191) [.t 56,.t 59]) [zL 49 48,zL 46 45] (.loud (zC 61 (.f 131) [.t 49,.t 60]) [] (zQ (zU 62 42) (zQ (zF 63 0 62) (.loud (zT 1 63 61) [] .nil))))))))))))))))))))))))
 (zS [zK 6 (.int .i64 0)]
 .ret)))))
def a147:AF:=⟨64,[.t 6],.code b147,none⟩
def b148:AC:=
 (zS [zK 4 (.int .i64 0),zK 5 (.bool false)]
 (.seq (zS [zM 8 0,zC 9 (.f 92) [.t 8],zE 10 9,zK 11 (.int .i64 0)]
 (.block 0 (.loop (zS [zB 12 .lss 11 10]
  (.seq (.cond (.t 12) .skip
  (.exit 0))
  (.seq (.block 1 (zS [zI 13 3 9 11,zO 14 (.loadN 3 (.t 13)),zO 7 (.alloc 155 [(.int .i64 0),(.int .u64 0),(.int .u64 0)]),zT 3 7 14]
  (.seq (.dreg (zQ (zF 15 0 7) (zQ (zL 16 15) (zQ (zM 17 1) (zQ (zE 18 17) (zQ (zB 19 .geq 16 18) (zQ (zM 20 19) (zQ (zV 21 1 20 false) (zQ (zG 22 (.faddr 0 (.t 7)) 20 false) (zQ (zG 23 (.load (.t 22)) 20 false) (zQ (zG 24 (.iaddrS 1 (.t 21) (.t 23)) 20 false) (zQ (zG 25 (.load (.t 24)) 20 false) (zQ (zG 26 (.faddr 1 (.t 7)) 20 false) (zQ (zG 27 (.load (.t 26)) 20 false) (.loud ⟨some 28,(.call (.f 133) [.t 25,.t 27]),(some (20,false))⟩ [] (zQ (zG 29 (.un .not (.t 28)) 20 false) (zQ (zO 30 (.pick (.t 20) (.k (.bool true)) (.t 29))) .nil)))))))))))))))))
  (.cond (.t 30) (zS [zF 31 0 7,zL 32 31,zM 4 32,zK 5 (.bool true)]
  .ret)
  .skip))))
  (.reg [zO 33 (.bin .add (.t 11) (.k (.int .i64 1))),zM 11 33])))))))
 (zS [zK 4 (.int .i64 0),zK 5 (.bool false)]
 .ret)))
def a148:AF:=⟨34,[.t 4,.t 5],.code b148,none⟩
def b154:AC:=
 (zS [zM 10 1,zO 11 (.bin .add (.t 10) (.k (.int .i64 1))),zM 8 11]
 (.block 0 (.loop (.seq (zS [zM 12 8,zM 13 2,zB 14 .lss 12 13]
  (.cond (.t 14) .skip
  (.exit 0)))
  (.seq (.block 1 (zS [zM 17 8,zM 9 17]
  (.block 2 (.loop (.seq (.seq (.dreg (zQ (zM 18 9) (zQ (zM 19 1) (zQ (zB 20 .gtr 18 19) (zQ (zM 21 20) (zQ (zV 22 3 21 true) (zQ (zV 23 0 21 true) (zQ (zV 24 9 21 true) (zQ (zG 25 (.iaddrS 1 (.t 23) (.t 24)) 21 true) (zQ (zG 26 (.load (.t 25)) 21 true) (zQ (zV 27 0 21 true) (zQ (zV 28 9 21 true) (zQ (zG 29 (.bin .sub (.t 28) (.k (.int .i64 1))) 21 true) (zQ (zG 30 (.iaddrS 1 (.t 27) (.t 29)) 21 true) (zQ (zG 31 (.load (.t 30)) 21 true) (.loud ⟨some 32,(.call (.t 22) [.t 26,.t 31]),(some (21,true))⟩ [] (zQ (zG 33 (.bin .lss (.t 32) (.k (.int .i64 0))) 21 true) (zQ (zO 34 (.pick (.t 21) (.t 33) (.k (.bool false)))) .nil))))))))))))))))))
   (.cond (.t 34) .skip
   (.exit 2)))
   (.seq (.block 3 (.dreg (zQ (zM 37 0) (zQ (zM 38 9) (zQ (zM 39 0) (zQ (zM 40 9) (zQ (zO 41 (.bin .sub (.t 40) (.k (.int .i64 1)))) (zQ (zM 42 0) (zQ (zM 43 9) (zQ (zO 44 (.bin .sub (.t 43) (.k (.int .i64 1)))) (zQ (zI 45 1 42 44) (zQ (zL 46 45) (zQ (zM 47 0) (zQ (zM 48 9) (zQ (zI 49 1 47 48) (zQ (zL 50 49) (zQ (zI 51 1 37 38) (.loud (zT 1 51 46) [] (zQ (zI 52 1 39 41) (.loud (zT 1 52 50) [] .nil))))))))))))))))))))
   (.reg [zM 35 9,zO 36 (.bin .sub (.t 35) (.k (.int .i64 1))),zM 9 36])))))))
  (.reg [zM 15 8,zO 16 (.bin .add (.t 15) (.k (.int .i64 1))),zM 8 16]))))))
def a154:AF:=⟨53,[],.code b154,none⟩
def b155:AC:=
 (.seq (zS [zM 25 2,zM 26 1,zB 27 .sub 25 26,zO 28 (.bin .eql (.t 27) (.k (.int .i64 1)))]
 (.cond (.t 28) (zS [zM 29 2,zM 10 29]
 (zS [zM 30 3,zM 11 30]
 (.seq (.block 0 (.loop (.seq (zS [zM 31 10,zM 32 11,zB 33 .lss 31 32]
  (.cond (.t 33) .skip
  (.exit 0)))
  (.block 1 (zS [zM 34 10,zM 35 11,zB 36 .add 34 35,zO 37 (.conv (.int .u64) (.t 36)),zO 38 (.bin .shr (.t 37) (.k (.int .u64 1))),zO 39 (.conv (.int .i64) (.t 38)),zM 12 39]
  (.seq (.dreg (zQ (zM 40 4) (zQ (zM 41 0) (zQ (zM 42 12) (zQ (zI 43 1 41 42) (zQ (zL 44 43) (zQ (zM 45 0) (zQ (zM 46 1) (zQ (zI 47 1 45 46) (zQ (zL 48 47) (.loud (zC 49 (.t 40) [.t 44,.t 48]) [] (zQ (zO 50 (.bin .lss (.t 49) (.k (.int .i64 0)))) .nil))))))))))))
  (.cond (.t 50) (.reg [zM 51 12,zO 52 (.bin .add (.t 51) (.k (.int .i64 1))),zM 10 52])
  (.reg [zM 53 12,zM 11 53]))))))))
 (.seq (zS [zM 54 1,zM 13 54]
 (.block 2 (.loop (.seq (zS [zM 55 13,zM 56 10,zO 57 (.bin .sub (.t 56) (.k (.int .i64 1))),zB 58 .lss 55 57]
  (.cond (.t 58) .skip
  (.exit 2)))
  (.seq (.block 3 (.dreg (zQ (zM 61 0) (zQ (zM 62 13) (zQ (zM 63 0) (zQ (zM 64 13) (zQ (zO 65 (.bin .add (.t 64) (.k (.int .i64 1)))) (zQ (zM 66 0) (zQ (zM 67 13) (zQ (zO 68 (.bin .add (.t 67) (.k (.int .i64 1)))) (zQ (zI 69 1 66 68) (zQ (zL 70 69) (zQ (zM 71 0) (zQ (zM 72 13) (zQ (zI 73 1 71 72) (zQ (zL 74 73) (zQ (zI 75 1 61 62) (.loud (zT 1 75 70) [] (zQ (zI 76 1 63 65) (.loud (zT 1 76 74) [] .nil))))))))))))))))))))
  (.reg [zM 59 13,zO 60 (.bin .add (.t 59) (.k (.int .i64 1))),zM 13 60]))))))
 .ret))))
 .skip))
 (.seq (zS [zM 77 3,zM 78 2,zB 79 .sub 77 78,zO 80 (.bin .eql (.t 79) (.k (.int .i64 1)))]
 (.cond (.t 80) (zS [zM 81 1,zM 14 81]
 (zS [zM 82 2,zM 15 82]
 (.seq (.block 4 (.loop (.seq (zS [zM 83 14,zM 84 15,zB 85 .lss 83 84]
  (.cond (.t 85) .skip
  (.exit 4)))
  (.block 5 (zS [zM 86 14,zM 87 15,zB 88 .add 86 87,zO 89 (.conv (.int .u64) (.t 88)),zO 90 (.bin .shr (.t 89) (.k (.int .u64 1))),zO 91 (.conv (.int .i64) (.t 90)),zM 16 91]
  (.seq (.dreg (zQ (zM 92 4) (zQ (zM 93 0) (zQ (zM 94 2) (zQ (zI 95 1 93 94) (zQ (zL 96 95) (zQ (zM 97 0) (zQ (zM 98 16) (zQ (zI 99 1 97 98) (zQ (zL 100 99) (.loud (zC 101 (.t 92) [.t 96,.t 100]) [] (zQ (zO 102 (.bin .lss (.t 101) (.k (.int .i64 0)))) (zQ (zO 103 (.un .not (.t 102))) .nil)))))))))))))
  (.cond (.t 103) (.reg [zM 104 16,zO 105 (.bin .add (.t 104) (.k (.int .i64 1))),zM 14 105])
  (.reg [zM 106 16,zM 15 106]))))))))
 (.seq (zS [zM 107 2,zM 17 107]
 (.block 6 (.loop (.seq (zS [zM 108 17,zM 109 14,zB 110 .gtr 108 109]
  (.cond (.t 110) .skip
  (.exit 6)))
  (.seq (.block 7 (.dreg (zQ (zM 113 0) (zQ (zM 114 17) (zQ (zM 115 0) (zQ (zM 116 17) (zQ (zO 117 (.bin .sub (.t 116) (.k (.int .i64 1)))) (zQ (zM 118 0) (zQ (zM 119 17) (zQ (zO 120 (.bin .sub (.t 119) (.k (.int .i64 1)))) (zQ (zI 121 1 118 120) (zQ (zL 122 121) (zQ (zM 123 0) (zQ (zM 124 17) (zQ (zI 125 1 123 124) (zQ (zL 126 125) (zQ (zI 127 1 113 114) (.loud (zT 1 127 122) [] (zQ (zI 128 1 115 117) (.loud (zT 1 128 126) [] .nil))))))))))))))))))))
  (.reg [zM 111 17,zO 112 (.bin .sub (.t 111) (.k (.int .i64 1))),zM 17 112]))))))
 .ret))))
 .skip))
 (zS [zM 129 1,zM 130 3,zB 131 .add 129 130,zO 132 (.conv (.int .u64) (.t 131)),zO 133 (.bin .shr (.t 132) (.k (.int .u64 1))),zO 134 (.conv (.int .i64) (.t 133)),zM 18 134]
 (zS [zM 135 18,zM 136 2,zB 137 .add 135 136,zM 19 137]
 (zS [zK 20 (.int .i64 0),zK 21 (.int .i64 0)]
 (.seq (zS [zM 138 2,zM 139 18,zB 140 .gtr 138 139]
 (.cond (.t 140) (zS [zM 141 19,zM 142 3,zB 143 .sub 141 142,zM 20 143]
 (.reg [zM 144 18,zM 21 144]))
 (zS [zM 145 1,zM 20 145]
 (.reg [zM 146 2,zM 21 146]))))
 (zS [zM 147 19,zO 148 (.bin .sub (.t 147) (.k (.int .i64 1))),zM 22 148]
 (.seq (.block 8 (.loop (.seq (zS [zM 149 20,zM 150 21,zB 151 .lss 149 150]
  (.cond (.t 151) .skip
  (.exit 8)))
  (.block 9 (zS [zM 152 20,zM 153 21,zB 154 .add 152 153,zO 155 (.conv (.int .u64) (.t 154)),zO 156 (.bin .shr (.t 155) (.k (.int .u64 1))),zO 157 (.conv (.int .i64) (.t 156)),zM 23 157]
  (.seq (.dreg (zQ (zM 158 4) (zQ (zM 159 0) (zQ (zM 160 22) (zQ (zM 161 23) (zQ (zB 162 .sub 160 161) (zQ (zI 163 1 159 162) (zQ (zL 164 163) (zQ (zM 165 0) (zQ (zM 166 23) (zQ (zI 167 1 165 166) (zQ (zL 168 167) (.loud (zC 169 (.t 158) [.t 164,.t 168]) [] (zQ (zO 170 (.bin .lss (.t 169) (.k (.int .i64 0)))) (zQ (zO 171 (.un .not (.t 170))) .nil)))))))))))))))
  (.cond (.t 171) (.reg [zM 172 23,zO 173 (.bin .add (.t 172) (.k (.int .i64 1))),zM 20 173])
  (.reg [zM 174 23,zM 21 174]))))))))
 (zS [zM 175 19,zM 176 20,zB 177 .sub 175 176,zM 24 177]
 (.seq (zS [zM 178 20,zM 179 2,zB 180 .lss 178 179,zM 181 180,zV 182 2 181 true,zV 183 24 181 true,zG 184 (.bin .lss (.t 182) (.t 183)) 181 true,zO 185 (.pick (.t 181) (.t 184) (.k (.bool false)))]
 (.cond (.t 185) (.reg [zM 186 0,zM 187 20,zM 188 2,zM 189 24,zM 190 4,zC 191 (.f 195) [.t 186,.t 187,.t 188,.t 189,.t 190]])
 .skip))
 (.seq (zS [zM 192 1,zM 193 20,zB 194 .lss 192 193,zM 195 194,zV 196 20 195 true,zV 197 18 195 true,zG 198 (.bin .lss (.t 196) (.t 197)) 195 true,zO 199 (.pick (.t 195) (.t 198) (.k (.bool false)))]
 (.cond (.t 199) (.reg [zM 200 0,zM 201 1,zM 202 20,zM 203 18,zM 204 4,zC 205 (.f 155) [.t 200,.t 201,.t 202,.t 203,.t 204]])
 .skip))
 (zS [zM 206 18,zM 207 24,zB 208 .lss 206 207,zM 209 208,zV 210 24 209 true,zV 211 3 209 true,zG 212 (.bin .lss (.t 210) (.t 211)) 209 true,zO 213 (.pick (.t 209) (.t 212) (.k (.bool false)))]
 (.cond (.t 213) (.reg [zM 214 0,zM 215 18,zM 216 24,zM 217 3,zM 218 4,zC 219 (.f 155) [.t 214,.t 215,.t 216,.t 217,.t 218]])
 .skip)))))))))))))
def a155:AF:=⟨220,[],.code b155,none⟩
def b156:AC:=
 (zS [zM 8 1,zO 9 (.bin .add (.t 8) (.k (.int .i64 1))),zM 6 9]
 (.block 0 (.loop (.seq (zS [zM 10 6,zM 11 2,zB 12 .lss 10 11]
  (.cond (.t 12) .skip
  (.exit 0)))
  (.seq (.block 1 (zS [zM 15 6,zM 7 15]
  (.block 2 (.loop (.seq (.seq (.dreg (zQ (zM 16 7) (zQ (zM 17 1) (zQ (zB 18 .gtr 16 17) (zQ (zM 19 18) (zQ (zV 20 0 19 true) (zQ (zV 21 7 19 true) (zQ (zG 22 (.iaddrS 1 (.t 20) (.t 21)) 19 true) (zQ (zG 23 (.load (.t 22)) 19 true) (zQ (zV 24 0 19 true) (zQ (zV 25 7 19 true) (zQ (zG 26 (.bin .sub (.t 25) (.k (.int .i64 1))) 19 true) (zQ (zG 27 (.iaddrS 1 (.t 24) (.t 26)) 19 true) (zQ (zG 28 (.load (.t 27)) 19 true) (.loud ⟨some 29,(.call (.f 162) [.t 23,.t 28]),(some (19,true))⟩ [] (zQ (zO 30 (.pick (.t 19) (.t 29) (.k (.bool false)))) .nil))))))))))))))))
   (.cond (.t 30) .skip
   (.exit 2)))
   (.seq (.block 3 (.dreg (zQ (zM 33 0) (zQ (zM 34 7) (zQ (zM 35 0) (zQ (zM 36 7) (zQ (zO 37 (.bin .sub (.t 36) (.k (.int .i64 1)))) (zQ (zM 38 0) (zQ (zM 39 7) (zQ (zO 40 (.bin .sub (.t 39) (.k (.int .i64 1)))) (zQ (zI 41 1 38 40) (zQ (zL 42 41) (zQ (zM 43 0) (zQ (zM 44 7) (zQ (zI 45 1 43 44) (zQ (zL 46 45) (zQ (zI 47 1 33 34) (.loud (zT 1 47 42) [] (zQ (zI 48 1 35 37) (.loud (zT 1 48 46) [] .nil))))))))))))))))))))
   (.reg [zM 31 7,zO 32 (.bin .sub (.t 31) (.k (.int .i64 1))),zM 7 32])))))))
  (.reg [zM 13 6,zO 14 (.bin .add (.t 13) (.k (.int .i64 1))),zM 6 14]))))))
def a156:AF:=⟨49,[],.code b156,none⟩
def b166:AC:=
 (zS [zK 2 (.int .i64 0)]
 (.seq (zS [zM 3 0,zO 4 (.bin .geq (.t 3) (.k (.int .u64 4294967296)))]
 (.cond (.t 4) (zS [zM 5 0,zO 6 (.bin .shr (.t 5) (.k (.int .u64 32))),zM 0 6]
 (.reg [zK 2 (.int .i64 32)]))
 .skip))
 (.seq (zS [zM 7 0,zO 8 (.bin .geq (.t 7) (.k (.int .u64 65536)))]
 (.cond (.t 8) (zS [zM 9 0,zO 10 (.bin .shr (.t 9) (.k (.int .u64 16))),zM 0 10]
 (.reg [zM 11 2,zO 12 (.bin .add (.t 11) (.k (.int .i64 16))),zM 2 12]))
 .skip))
 (.seq (zS [zM 13 0,zO 14 (.bin .geq (.t 13) (.k (.int .u64 256)))]
 (.cond (.t 14) (zS [zM 15 0,zO 16 (.bin .shr (.t 15) (.k (.int .u64 8))),zM 0 16]
 (.reg [zM 17 2,zO 18 (.bin .add (.t 17) (.k (.int .i64 8))),zM 2 18]))
 .skip))
 (zS [zM 19 2,zM 20 0,zO 21 (.conv (.int .u8) (.t 20)),zO 22 (.indexS (.k (.string ⟨#[0,1,2,2,3,3,3,3,4,4,4,4,4,4,4,4,5,5,5,5,5,5,5,5,5,5,5,5,5,5,5,5,6,6,6,6,6,6,6,6,6,6,6,6,6,6,6,6,6,6,6,6,6,6,6,6,6,6,6,6,6,6,6,6,7,7,7,7,7,7,7,7,7,7,7,7,7,7,7,7,7,7,7,7,7,7,7,7,7,7,7,7,7,7,7,7,7,7,7,7,7,7,7,7,7,7,7,7,7,7,7,7,7,7,7,7,7,7,7,7,7,7,7,7,7,7,7,7,8,8,8,8,8,8,8,8,8,8,8,8,8,8,8,8,8,8,8,8,8,8,8,8,8,8,8,8,8,8,8,8,8,8,8,8,8,8,8,8,8,8,8,8,8,8,8,8,8,8,8,8,8,8,8,8,8,8,8,8,8,8,8,8,8,8,8,8,8,8,8,8,8,8,8,8,8,8,8,8,8,8,8,8,8,8,8,8,8,8,8,8,8,8,8,8,8,8,8,8,8,8,8,8,8,8,8,8,8,8,8,8,8,8,8,8,8,8,8,8,8,8,8,8,8,8,8,8]⟩)) (.t 21)),zO 23 (.conv (.int .i64) (.t 22)),zB 24 .add 19 23,zM 2 24]
 .ret)))))
def a166:AF:=⟨25,[.t 2],.code b166,none⟩
def b167:AC:=
 (zS [zK 4 (.int .u64 0),zK 5 (.bool false)]
 (.seq (zS [zM 7 0,zO 8 (.eq false .ptr (.t 7) (.k (.pointer none))),zM 9 8,zV 10 1 9 false,zG 11 (.bin .lss (.t 10) (.k (.int .i64 0))) 9 false,zO 12 (.pick (.t 9) (.k (.bool true)) (.t 11)),zM 13 12,zV 14 1 13 false,zG 15 (.bin .geq (.t 14) (.k (.int .i64 12))) 13 false,zO 16 (.pick (.t 13) (.k (.bool true)) (.t 15))]
 (.cond (.t 16) (zS [zK 4 (.int .u64 0),zK 5 (.bool false)]
 .ret)
 .skip))
 (.seq (zS [zM 17 0,zU 18 17,zF 19 0 18,zL 20 19,zE 21 20,zO 22 (.bin .sub (.t 21) (.k (.int .i64 1))),zM 6 22]
 (.block 0 (.loop (.seq (zS [zM 23 6,zO 24 (.bin .geq (.t 23) (.k (.int .i64 0)))]
  (.cond (.t 24) .skip
  (.exit 0)))
  (.seq (.block 1 (zS [zM 27 0,zU 28 27,zF 29 0 28,zL 30 29,zM 31 6,zM 32 1,zI 33 24 30 31,zF 34 0 33,zO 35 (.iaddrA 12 1 (.t 34) (.t 32)),zL 36 35]
  (.cond (.t 36) (zS [zM 37 0,zU 38 37,zF 39 0 38,zL 40 39,zM 41 6,zM 42 1,zI 43 24 40 41,zF 44 12 43,zO 45 (.iaddrA 12 1 (.t 44) (.t 42)),zL 46 45,zM 4 46,zK 5 (.bool true)]
  .ret)
  .skip)))
  (.reg [zM 25 6,zO 26 (.bin .sub (.t 25) (.k (.int .i64 1))),zM 6 26]))))))
 (zS [zK 4 (.int .u64 0),zK 5 (.bool false)]
 .ret))))
def a167:AF:=⟨47,[.t 4,.t 5],.code b167,none⟩
def b168:AC:=
 (zS [zK 4 (.int .i64 0),zK 5 (.bool false)]
 (.seq (zS [zK 6 (.int .i64 0)]
 (.block 0 (.loop (.seq (zS [zM 8 0,zO 9 (.eq true .ptr (.t 8) (.k (.pointer none))),zM 10 9,zV 11 6 10 true,zV 12 0 10 true,zG 13 (.nilchk (.t 12)) 10 true,zG 14 (.faddr 0 (.t 13)) 10 true,zG 15 (.load (.t 14)) 10 true,zG 16 (.lenS (.t 15)) 10 true,zG 17 (.bin .lss (.t 11) (.t 16)) 10 true,zO 18 (.pick (.t 10) (.t 17) (.k (.bool false)))]
  (.cond (.t 18) .skip
  (.exit 0)))
  (.seq (.block 1 (zS [zM 21 0,zU 22 21,zF 23 0 22,zL 24 23,zM 25 6,zI 26 3 24 25,zF 27 0 26,zL 28 27,zM 7 28]
  (.seq (.dreg (zQ (zM 29 7) (zQ (zM 30 1) (zQ (zE 31 30) (zQ (zB 32 .geq 29 31) (zQ (zM 33 32) (zQ (zV 34 1 33 false) (zQ (zV 35 7 33 false) (zQ (zG 36 (.iaddrS 1 (.t 34) (.t 35)) 33 false) (zQ (zG 37 (.load (.t 36)) 33 false) (zQ (zV 38 0 33 false) (zQ (zG 39 (.nilchk (.t 38)) 33 false) (zQ (zG 40 (.faddr 0 (.t 39)) 33 false) (zQ (zG 41 (.load (.t 40)) 33 false) (zQ (zV 42 6 33 false) (zQ (zG 43 (.iaddrS 3 (.t 41) (.t 42)) 33 false) (zQ (zG 44 (.faddr 1 (.t 43)) 33 false) (zQ (zG 45 (.load (.t 44)) 33 false) (.loud ⟨some 46,(.call (.f 170) [.t 37,.t 45]),(some (33,false))⟩ [] (zQ (zG 47 (.un .not (.t 46)) 33 false) (zQ (zO 48 (.pick (.t 33) (.k (.bool true)) (.t 47))) .nil)))))))))))))))))))))
  (.cond (.t 48) (zS [zM 49 7,zM 4 49,zK 5 (.bool true)]
  .ret)
  .skip))))
  (.reg [zM 19 6,zO 20 (.bin .add (.t 19) (.k (.int .i64 1))),zM 6 20]))))))
 (zS [zK 4 (.int .i64 0),zK 5 (.bool false)]
 .ret)))
def a168:AF:=⟨50,[.t 4,.t 5],.code b168,none⟩
def b169:AC:=
 (zS [zK 2 (.int .i64 0)]
 (.seq (zS [zM 3 0,zO 4 (.eq false .ptr (.t 3) (.k (.pointer none)))]
 (.cond (.t 4) (zS [zK 2 (.int .i64 0)]
 .ret)
 .skip))
 (zS [zM 5 0,zU 6 5,zF 7 0 6,zL 8 7,zE 9 8,zO 10 (.bin .sub (.t 9) (.k (.int .i64 1))),zM 2 10]
 .ret)))
def a169:AF:=⟨11,[.t 2],.code b169,none⟩
def b170:AC:=
 (zS [zK 4 (.bool false)]
 (zS [zM 5 0,zC 6 (.f 202) [.t 5],zM 7 1,zC 8 (.f 202) [.t 7],zB 9 .eql 6 8,zM 4 9]
 .ret))
def a170:AF:=⟨10,[.t 4],.code b170,none⟩
def b171:AC:=
 (zS [zK 4 (.bool false)]
 (zS [zM 5 0,zO 6 (.eq true .ptr (.t 5) (.k (.pointer none))),zM 7 6,zV 8 0 7 true,zG 9 (.nilchk (.t 8)) 7 true,zG 10 (.faddr 0 (.t 9)) 7 true,zG 11 (.load (.t 10)) 7 true,zV 12 1 7 true,zG 13 (.bin .eql (.t 11) (.t 12)) 7 true,zO 14 (.pick (.t 7) (.t 13) (.k (.bool false))),zM 4 14]
 .ret))
def a171:AF:=⟨15,[.t 4],.code b171,none⟩
def b172:AC:=
 (zS [zK 4 (.int .i64 0)]
 (zS [zM 6 0,zM 7 1,zC 8 (.f 203) [.t 6,.t 7],zM 5 8]
 (.seq (zS [zM 9 5,zO 10 (.bin .eql (.t 9) (.k (.int .i64 0)))]
 (.cond (.t 10) (zS [zM 11 0,zM 12 0,zU 13 11,zF 14 1 13,zN (.store 1 (.t 14) (.k (.bool false))),zU 15 12,zF 16 2 15,zN (.store 1 (.t 16) (.k (.int .i64 0)))]
 (.reg [zM 17 0,zU 18 17,zF 19 0 18,zL 20 19,zO 21 (.bin .sub (.t 20) (.k (.int .u64 1))),zU 22 17,zF 23 0 22,zT 1 23 21]))
 .skip))
 (zS [zM 24 5,zM 4 24]
 .ret))))
def a172:AF:=⟨25,[.t 4],.code b172,none⟩
def b173:AC:=
 (zS [zO 6 (.alloc 63 [(.bool false),(.int .u64 0),(.bool false),(.int .i64 0),(.bool false),(.int .u8 0),(.int .i64 0)])]
 (zS [zM 7 1,zU 8 7,zF 9 4 8,zN (.store 1 (.t 9) (.k (.bool false)))]
 (.seq (.dreg (zQ (zM 10 0) (zQ (zM 11 1) (zQ (zU 12 11) (zQ (zF 13 0 12) (zQ (zL 14 13) (zQ (zM 15 1) (zQ (zU 16 15) (zQ (zF 17 5 16) (zQ (zF 18 1 17) (zQ (zL 19 18) (zQ (zM 20 2) (zQ (zO 21 (.build [(.int .u8 0),(.int .i64 0),(.int .i64 0),(.int .u64 0)] [(0,1,(.k (.int .u8 2))),(1,1,(.t 14)),(2,1,(.t 19)),(3,1,(.t 20))])) (.loud (zC 22 (.f 120) [.t 10,.t 21]) [] .nil))))))))))))))
 (zS [zM 23 2,zO 24 (.build [(.bool false),(.int .u64 0),(.bool false),(.int .i64 0),(.bool false),(.int .u8 0),(.int .i64 0)] [(0,1,(.k (.bool true))),(1,1,(.t 23))]),zT 7 6 24]
 .ret))))
def a173:AF:=⟨25,[(.c 6 true 7)],.code b173,none⟩
def b174:AC:=
 (zS [zO 4 (.alloc 63 [(.bool false),(.int .u64 0),(.bool false),(.int .i64 0),(.bool false),(.int .u8 0),(.int .i64 0)])]
 (zS [zM 5 0,zM 6 0,zM 7 1,zU 8 5,zF 9 8 8,zN (.store 1 (.t 9) (.k (.int .i64 10))),zU 10 6,zF 11 9 10,zT 1 11 7]
 (zS [zO 12 (.build [(.bool false),(.int .u64 0),(.bool false),(.int .i64 0),(.bool false),(.int .u8 0),(.int .i64 0)] []),zT 7 4 12]
 .ret)))
def a174:AF:=⟨13,[(.c 4 true 7)],.code b174,none⟩
def b175:AC:=
 (zS [zO 3 (.box 155 (.t 1)),zK 4 (.int .i64 0)]
 (.seq (.block 0 (zS [zM 8 0,zO 9 (.eq false .ptr (.t 8) (.k (.pointer none))),zM 7 9]
 (.cond (.t 7) (zS [zK 4 (.int .i64 1)]
 .ret)
 (zS [zF 11 0 3,zL 12 11,zO 13 (.bin .lss (.t 12) (.k (.int .i64 0))),zM 14 13,zG 15 (.faddr 0 (.t 3)) 14 false,zG 16 (.load (.t 15)) 14 false,zG 17 (.bin .geq (.t 16) (.k (.int .i64 12))) 14 false,zO 18 (.pick (.t 14) (.k (.bool true)) (.t 17)),zM 19 18,zG 20 (.faddr 2 (.t 3)) 19 false,zG 21 (.load (.t 20)) 19 false,zG 22 (.bin .gtr (.t 21) (.k (.int .u64 1099511627776))) 19 false,zO 23 (.pick (.t 19) (.k (.bool true)) (.t 22)),zM 10 23]
 (.cond (.t 10) (zS [zK 4 (.int .i64 2)]
 .ret)
 (zS [zF 25 1 3,zL 26 25,zC 27 (.f 98) [.t 26],zO 28 (.un .not (.t 27)),zM 24 28]
 (.cond (.t 24) (zS [zK 4 (.int .i64 3)]
 .ret)
 .skip)))))))
 (.seq (zS [zM 30 0,zF 31 0 3,zL 32 31,zC 33 (.f 204) [.t 30,.t 32],zM 29 33,zO 34 (.extract (.t 29) 0),zO 35 (.extract (.t 29) 1),zO 5 (.alloc 155 [(.int .i64 0),(.int .u64 0),(.int .u64 0)]),zT 3 5 34,zM 6 35]
 (zS [zM 36 6]
 (.cond (.t 36) (zS [zK 4 (.int .i64 0)]
 .ret)
 .skip)))
 (.seq (zS [zM 37 0,zU 38 37,zF 39 0 38,zL 40 39,zE 41 40,zO 42 (.bin .geq (.t 41) (.k (.int .i64 8)))]
 (.cond (.t 42) (zS [zK 4 (.int .i64 4)]
 .ret)
 .skip))
 (.seq (.dreg (zQ (zM 43 0) (zQ (zM 45 0) (zQ (zU 46 45) (zQ (zF 47 0 46) (zQ (zL 48 47) (zQ (zO 50 (.loadN 3 (.t 3))) (.both (.loud (zO 44 (.bslice 155 [] 0 [])) [zO 50 (.loadN 3 (.t 3)),zL 48 47] (.both (.loud (zO 49 (.append 155 3 24 (.t 44) (.t 48))) [zO 50 (.loadN 3 (.t 3))] (.loud (zO 51 (.bslice 155 [(.int .i64 0),(.int .u64 0),(.int .u64 0)] 1 [(0,3,(.t 50))])) [zL 48 47] (.loud (zO 52 (.append 155 3 24 (.t 49) (.t 51))) [] (zQ (zU 53 43) (zQ (zF 54 0 53) (.loud (zT 1 54 52) [] .nil))))))
  (.loud (zO 51 (.bslice 155 [(.int .i64 0),(.int .u64 0),(.int .u64 0)] 1 [(0,3,(.t 50))])) [zL 48 47] (.loud (zO 49 (.append 155 3 24 (.t 44) (.t 48))) [zO 50 (.loadN 3 (.t 3))] (.loud (zO 52 (.append 155 3 24 (.t 49) (.t 51))) [] (zQ (zU 53 43) (zQ (zF 54 0 53) (.loud (zT 1 54 52) [] .nil))))))))
  (.loud (zO 51 (.bslice 155 [(.int .i64 0),(.int .u64 0),(.int .u64 0)] 1 [(0,3,(.t 50))])) [zL 48 47] (.loud (zO 44 (.bslice 155 [] 0 [])) [zO 50 (.loadN 3 (.t 3)),zL 48 47] (.loud (zO 49 (.append 155 3 24 (.t 44) (.t 48))) [zO 50 (.loadN 3 (.t 3))] (.loud (zO 52 (.append 155 3 24 (.t 49) (.t 51))) [] (zQ (zU 53 43) (zQ (zF 54 0 53) (.loud (zT 1 54 52) [] .nil)))))))))))))))
 (zS [zK 4 (.int .i64 0)]
 .ret))))))
def a175:AF:=⟨55,[.t 4],.code b175,none⟩
def b176:AC:=
 (zS [zO 4 (.alloc 63 [(.bool false),(.int .u64 0),(.bool false),(.int .i64 0),(.bool false),(.int .u8 0),(.int .i64 0)])]
 (zS [zM 5 0,zM 6 0,zM 7 1,zU 8 6,zF 9 2 8,zO 10 (.iaddrA 4 1 (.t 9) (.t 7)),zL 11 10,zU 12 11,zF 13 0 12,zL 14 13,zO 15 (.build [(.int .u8 0),(.int .i64 0),(.int .i64 0),(.int .u64 0)] [(0,1,(.k (.int .u8 8))),(1,1,(.t 14))]),zC 16 (.f 120) [.t 5,.t 15]]
 (zS [zM 17 0,zM 18 1,zU 19 17,zF 20 2 19,zO 21 (.iaddrA 4 1 (.t 20) (.t 18)),zN (.store 1 (.t 21) (.k (.pointer none)))]
 (zS [zO 22 (.build [(.bool false),(.int .u64 0),(.bool false),(.int .i64 0),(.bool false),(.int .u8 0),(.int .i64 0)] [(0,1,(.k (.bool true))),(4,1,(.k (.bool true)))]),zT 7 4 22]
 .ret))))
def a176:AF:=⟨23,[(.c 4 true 7)],.code b176,none⟩
def b177:AC:=
 (zS [zK 6 (.int .i64 0)]
 (.seq (.block 0 (zS [zM 8 0,zO 9 (.eq false .ptr (.t 8) (.k (.pointer none))),zM 7 9]
 (.cond (.t 7) (zS [zK 6 (.int .i64 1)]
 .ret)
 (zS [zM 11 1,zO 12 (.bin .lss (.t 11) (.k (.int .i64 0))),zM 13 12,zV 14 1 13 false,zG 15 (.bin .geq (.t 14) (.k (.int .i64 4))) 13 false,zO 16 (.pick (.t 13) (.k (.bool true)) (.t 15)),zM 10 16]
 (.cond (.t 10) (zS [zK 6 (.int .i64 2)]
 .ret)
 (zS [zM 18 0,zU 19 18,zF 20 1 19,zL 21 20,zM 17 21]
 (.cond (.t 17) (zS [zK 6 (.int .i64 7)]
 .ret)
 (zS [zM 23 0,zU 24 23,zF 25 0 24,zL 26 25,zM 27 2,zB 28 .neq 26 27,zM 22 28]
 (.cond (.t 22) (zS [zK 6 (.int .i64 8)]
 .ret)
 (zS [zM 30 0,zU 31 30,zF 32 0 31,zL 33 32,zO 34 (.bin .geq (.t 33) (.k (.int .u64 1099511627775))),zM 29 34]
 (.cond (.t 29) (zS [zK 6 (.int .i64 4)]
 .ret)
 .skip)))))))))))
 (zS [zM 35 0,zM 36 0,zM 37 1,zU 38 35,zF 39 1 38,zN (.store 1 (.t 39) (.k (.bool true))),zU 40 36,zF 41 2 40,zT 1 41 37]
 (zS [zM 42 0,zU 43 42,zF 44 0 43,zL 45 44,zO 46 (.bin .add (.t 45) (.k (.int .u64 1))),zU 47 42,zF 48 0 47,zT 1 48 46]
 (zS [zK 6 (.int .i64 0)]
 .ret)))))
def a177:AF:=⟨49,[.t 6],.code b177,none⟩
def b178:AC:=
 (zS [zK 4 (.int .i64 0)]
 (zS [zM 6 0,zM 7 1,zC 8 (.f 203) [.t 6,.t 7],zM 5 8]
 (.seq (zS [zM 9 5,zO 10 (.bin .eql (.t 9) (.k (.int .i64 0)))]
 (.cond (.t 10) (zS [zM 11 0,zM 12 0,zU 13 11,zF 14 1 13,zN (.store 1 (.t 14) (.k (.bool false))),zU 15 12,zF 16 2 15,zN (.store 1 (.t 16) (.k (.int .i64 0)))]
 (.reg [zM 17 0,zU 18 17,zF 19 0 18,zL 20 19,zO 21 (.bin .add (.t 20) (.k (.int .u64 1))),zU 22 17,zF 23 0 22,zT 1 23 21]))
 .skip))
 (zS [zM 24 5,zM 4 24]
 .ret))))
def a178:AF:=⟨25,[.t 4],.code b178,none⟩
def b179:AC:=
 (zS [zK 2 (.int .i64 0)]
 (.seq (.block 0 (zS [zM 4 0,zO 5 (.eq false .ptr (.t 4) (.k (.pointer none))),zM 3 5]
 (.cond (.t 3) (zS [zK 2 (.int .i64 1)]
 .ret)
 (zS [zM 7 0,zC 8 (.f 169) [.t 7],zO 9 (.bin .geq (.t 8) (.k (.int .i64 4))),zM 6 9]
 (.cond (.t 6) (zS [zK 2 (.int .i64 4)]
 .ret)
 .skip)))))
 (zS [zM 10 0,zO 11 (.bslice 214 [] 0 []),zM 12 0,zU 13 12,zF 14 0 13,zL 15 14,zO 16 (.append 214 24 112 (.t 11) (.t 15)),zO 17 (.build [(.bool false),(.bool false),(.bool false),(.bool false),(.bool false),(.bool false),(.bool false),(.bool false),(.bool false),(.bool false),(.bool false),(.bool false),(.int .u64 0),(.int .u64 0),(.int .u64 0),(.int .u64 0),(.int .u64 0),(.int .u64 0),(.int .u64 0),(.int .u64 0),(.int .u64 0),(.int .u64 0),(.int .u64 0),(.int .u64 0)] []),zO 18 (.bslice 214 [(.bool false),(.bool false),(.bool false),(.bool false),(.bool false),(.bool false),(.bool false),(.bool false),(.bool false),(.bool false),(.bool false),(.bool false),(.int .u64 0),(.int .u64 0),(.int .u64 0),(.int .u64 0),(.int .u64 0),(.int .u64 0),(.int .u64 0),(.int .u64 0),(.int .u64 0),(.int .u64 0),(.int .u64 0),(.int .u64 0)] 1 [(0,24,(.t 17))]),zO 19 (.append 214 24 112 (.t 16) (.t 18)),zU 20 10,zF 21 0 20,zT 1 21 19]
 (zS [zK 2 (.int .i64 0)]
 .ret))))
def a179:AF:=⟨22,[.t 2],.code b179,none⟩
def b180:AC:=
 (zS [zK 2 (.int .i64 0)]
 (.seq (.block 0 (zS [zM 4 0,zO 5 (.eq false .ptr (.t 4) (.k (.pointer none))),zM 3 5]
 (.cond (.t 3) (zS [zK 2 (.int .i64 1)]
 .ret)
 (zS [zM 7 0,zC 8 (.f 169) [.t 7],zO 9 (.bin .eql (.t 8) (.k (.int .i64 0))),zM 6 9]
 (.cond (.t 6) (zS [zK 2 (.int .i64 8)]
 .ret)
 .skip)))))
 (.seq (.dreg (zQ (zM 10 0) (zQ (zM 12 0) (zQ (zU 13 12) (zQ (zF 14 0 13) (zQ (zL 15 14) (zQ (zM 16 0) (zQ (zU 17 16) (zQ (zF 18 0 17) (zQ (zL 19 18) (zQ (zE 20 19) (zQ (zO 21 (.bin .sub (.t 20) (.k (.int .i64 1)))) (zQ (zO 22 (.slice 24 (.t 15) none (some (.t 21)) none)) (.loud (zO 11 (.bslice 214 [] 0 [])) [zL 19 18,zL 15 14] (.loud (zO 23 (.append 214 24 112 (.t 11) (.t 22))) [] (zQ (zU 24 10) (zQ (zF 25 0 24) (.loud (zT 1 25 23) [] .nil))))))))))))))))))
 (zS [zK 2 (.int .i64 0)]
 .ret))))
def a180:AF:=⟨26,[.t 2],.code b180,none⟩
def b181:AC:=
 (zS [zK 2 (.int .i64 0)]
 (.seq (.block 0 (zS [zM 8 0,zO 9 (.eq false .ptr (.t 8) (.k (.pointer none))),zM 7 9]
 (.cond (.t 7) (zS [zK 2 (.int .i64 1)]
 .ret)
 (zS [zM 11 0,zC 12 (.f 169) [.t 11],zO 13 (.bin .eql (.t 12) (.k (.int .i64 0))),zM 10 13]
 (.cond (.t 10) (zS [zK 2 (.int .i64 8)]
 .ret)
 .skip)))))
 (zS [zM 14 0,zU 15 14,zF 16 0 15,zL 17 16,zE 18 17,zM 3 18]
 (.seq (.dreg (zQ (zM 19 0) (zQ (zU 20 19) (zQ (zF 21 0 20) (zQ (zL 22 21) (zQ (zM 23 3) (zQ (zO 24 (.bin .sub (.t 23) (.k (.int .i64 1)))) (zQ (zI 25 24 22 24) (zQ (zO 26 (.loadN 24 (.t 25))) (zQ (zM 27 0) (zQ (zU 28 27) (zQ (zF 29 0 28) (zQ (zL 30 29) (zQ (zM 31 3) (zQ (zO 32 (.bin .sub (.t 31) (.k (.int .i64 2)))) (zQ (zI 33 24 30 32) (zQ (zO 34 (.loadN 24 (.t 33))) (.both (.loud (zO 4 (.alloc 214 [(.bool false),(.bool false),(.bool false),(.bool false),(.bool false),(.bool false),(.bool false),(.bool false),(.bool false),(.bool false),(.bool false),(.bool false),(.int .u64 0),(.int .u64 0),(.int .u64 0),(.int .u64 0),(.int .u64 0),(.int .u64 0),(.int .u64 0),(.int .u64 0),(.int .u64 0),(.int .u64 0),(.int .u64 0),(.int .u64 0)])) [zO 34 (.loadN 24 (.t 33)),zL 30 29,zO 26 (.loadN 24 (.t 25)),zL 22 21] (.loud (zO 5 (.alloc 214 [(.bool false),(.bool false),(.bool false),(.bool false),(.bool false),(.bool false),(.bool false),(.bool false),(.bool false),(.bool false),(.bool false),(.bool false),(.int .u64 0),(.int .u64 0),(.int .u64 0),(.int .u64 0),(.int .u64 0),(.int .u64 0),(.int .u64 0),(.int .u64 0),(.int .u64 0),(.int .u64 0),(.int .u64 0),(.int .u64 0)])) [zO 34 (.loadN 24 (.t 33)),zL 30 29,zO 26 (.loadN 24 (.t 25)),zL 22 21] (.loud (zT 24 4 26) [zO 34 (.loadN 24 (.t 33)),zL 30 29] (.loud (zT 24 5 34) [] .nil))))
  (.loud (zO 5 (.alloc 214 [(.bool false),(.bool false),(.bool false),(.bool false),(.bool false),(.bool false),(.bool false),(.bool false),(.bool false),(.bool false),(.bool false),(.bool false),(.int .u64 0),(.int .u64 0),(.int .u64 0),(.int .u64 0),(.int .u64 0),(.int .u64 0),(.int .u64 0),(.int .u64 0),(.int .u64 0),(.int .u64 0),(.int .u64 0),(.int .u64 0)])) [zO 34 (.loadN 24 (.t 33)),zL 30 29,zO 26 (.loadN 24 (.t 25)),zL 22 21] (.loud (zO 4 (.alloc 214 [(.bool false),(.bool false),(.bool false),(.bool false),(.bool false),(.bool false),(.bool false),(.bool false),(.bool false),(.bool false),(.bool false),(.bool false),(.int .u64 0),(.int .u64 0),(.int .u64 0),(.int .u64 0),(.int .u64 0),(.int .u64 0),(.int .u64 0),(.int .u64 0),(.int .u64 0),(.int .u64 0),(.int .u64 0),(.int .u64 0)])) [zO 34 (.loadN 24 (.t 33)),zL 30 29,zO 26 (.loadN 24 (.t 25)),zL 22 21] (.loud (zT 24 4 26) [zO 34 (.loadN 24 (.t 33)),zL 30 29] (.loud (zT 24 5 34) [] .nil))))))))))))))))))))))
 (.seq (zS [zK 6 (.int .i64 0)]
 (.block 1 (.loop (.seq (zS [zM 35 6,zO 36 (.bin .lss (.t 35) (.k (.int .i64 12)))]
  (.cond (.t 36) .skip
  (.exit 1)))
  (.seq (.block 2 (zS [zM 39 6,zF 40 0 4,zO 41 (.iaddrA 12 1 (.t 40) (.t 39)),zL 42 41]
  (.cond (.t 42) (.dreg (zQ (zM 43 6) (zQ (zM 44 6) (zQ (zM 45 6) (zQ (zF 46 12 4) (zQ (zO 47 (.iaddrA 12 1 (.t 46) (.t 45))) (zQ (zL 48 47) (zQ (zF 49 0 5) (zQ (zO 50 (.iaddrA 12 1 (.t 49) (.t 43))) (zQ (zF 51 12 5) (.loud (zN (.store 1 (.t 50) (.k (.bool true)))) [zL 48 47] (zQ (zO 52 (.iaddrA 12 1 (.t 51) (.t 44))) (.loud (zT 1 52 48) [] .nil)))))))))))))
  .skip)))
  (.reg [zM 37 6,zO 38 (.bin .add (.t 37) (.k (.int .i64 1))),zM 6 38]))))))
 (zS [zM 53 0,zC 54 (.f 180) [.t 53]]
 (zS [zM 55 0,zM 56 3,zO 57 (.bin .sub (.t 56) (.k (.int .i64 2))),zO 58 (.loadN 24 (.t 5)),zC 59 (.f 205) [.t 55,.t 57,.t 58]]
 (zS [zK 2 (.int .i64 0)]
 .ret))))))))
def a181:AF:=⟨60,[.t 2],.code b181,none⟩
def b182:AC:=
 (zS [zK 6 (.int .i64 0)]
 (.seq (.block 0 (zS [zM 9 0,zO 10 (.eq false .ptr (.t 9) (.k (.pointer none))),zM 8 10]
 (.cond (.t 8) (zS [zK 6 (.int .i64 1)]
 .ret)
 (zS [zM 12 1,zO 13 (.bin .lss (.t 12) (.k (.int .i64 0))),zM 14 13,zV 15 1 14 false,zG 16 (.bin .geq (.t 15) (.k (.int .i64 12))) 14 false,zO 17 (.pick (.t 14) (.k (.bool true)) (.t 16)),zM 11 17]
 (.cond (.t 11) (zS [zK 6 (.int .i64 2)]
 .ret)
 (zS [zM 19 2,zC 20 (.f 98) [.t 19],zO 21 (.un .not (.t 20)),zM 18 21]
 (.cond (.t 18) (zS [zK 6 (.int .i64 3)]
 .ret)
 .skip)))))))
 (.seq (.dreg (zQ (zM 22 0) (zQ (zU 23 22) (zQ (zF 24 0 23) (zQ (zL 25 24) (zQ (zM 26 0) (zQ (zU 27 26) (zQ (zF 28 0 27) (zQ (zL 29 28) (zQ (zE 30 29) (zQ (zO 31 (.bin .sub (.t 30) (.k (.int .i64 1)))) (zQ (zI 32 24 25 31) (zQ (zO 33 (.loadN 24 (.t 32))) (.loud (zO 7 (.alloc 214 [(.bool false),(.bool false),(.bool false),(.bool false),(.bool false),(.bool false),(.bool false),(.bool false),(.bool false),(.bool false),(.bool false),(.bool false),(.int .u64 0),(.int .u64 0),(.int .u64 0),(.int .u64 0),(.int .u64 0),(.int .u64 0),(.int .u64 0),(.int .u64 0),(.int .u64 0),(.int .u64 0),(.int .u64 0),(.int .u64 0)])) [zO 33 (.loadN 24 (.t 32)),zL 29 28,zL 25 24] (.loud (zT 24 7 33) [] .nil)))))))))))))))
 (.seq (zS [zM 34 1,zF 35 0 7,zO 36 (.iaddrA 12 1 (.t 35) (.t 34)),zL 37 36,zO 38 (.un .not (.t 37)),zM 39 38,zV 40 0 39 true,⟨some 41,(.call (.f 206) [.t 40]),(some (39,true))⟩,zG 42 (.bin .geq (.t 41) (.k (.int .i64 16))) 39 true,zO 43 (.pick (.t 39) (.t 42) (.k (.bool false)))]
 (.cond (.t 43) (zS [zK 6 (.int .i64 4)]
 .ret)
 .skip))
 (zS [zM 44 1,zM 45 1,zM 46 2,zF 47 0 7,zO 48 (.iaddrA 12 1 (.t 47) (.t 44)),zN (.store 1 (.t 48) (.k (.bool true))),zF 49 12 7,zO 50 (.iaddrA 12 1 (.t 49) (.t 45)),zT 1 50 46]
 (.seq (.dreg (zQ (zM 51 0) (zQ (zM 52 0) (zQ (zU 53 52) (zQ (zF 54 0 53) (zQ (zL 55 54) (zQ (zE 56 55) (zQ (zO 57 (.bin .sub (.t 56) (.k (.int .i64 1)))) (zQ (zO 58 (.loadN 24 (.t 7))) (.loud (zC 59 (.f 205) [.t 51,.t 57,.t 58]) [] .nil))))))))))
 (zS [zK 6 (.int .i64 0)]
 .ret)))))))
def a182:AF:=⟨60,[.t 6],.code b182,none⟩
def b183:AC:=
 (zS []
 (.block 0 (zS [zO 6 (.ifnil false (.t 4))]
 (.cond (.t 6) (.reg [zM 1 4])
 (zS [zO 7 (.tassert 218 (.agg #[(.int .i64 0)]) (.t 4)),zO 8 (.extract (.t 7) 1),zO 9 (.extract (.t 7) 0)]
 (.cond (.t 8) (zS [zO 2 (.alloc 218 [(.int .i64 0)]),zT 1 2 9]
 (.reg [zF 10 0 2,zL 11 10,zT 1 0 11]))
 (zS [zM 3 4]
 (.reg [zM 5 3,⟨none,(.panic (.t 5)),none⟩]))))))))
def a183:AF:=⟨12,[],.code b183,some 4⟩
def b184:AC:=
 (zS [zK 2 (.int .u64 0)]
 (.seq (zS [zM 3 0,zC 4 (.f 96) [.t 3]]
 (.cond (.t 4) (zS [zM 5 0,zM 2 5]
 .ret)
 .skip))
 (zS [zK 2 (.int .u64 9221120237041090560)]
 .ret)))
def a184:AF:=⟨6,[.t 2],.code b184,none⟩
def b185:AC:=
 (zS [zO 3 (.box 85 (.t 0)),zO 4 (.box 3 (.t 1)),zO 5 (.box 223 (.t 2)),zK 6 (.int .i64 0)]
 (zS [zO 7 (.mkfunc 207 [] [.t 3,.t 4,.t 5]),zC 8 (.f 128) [.t 7],zM 6 8]
 .ret))
def a185:AF:=⟨9,[.t 6],.code b185,none⟩
def b186:AC:=
 (zS [zK 2 (.int .u64 0)]
 (zS [zM 3 0,zO 4 (.bin .sub (.t 3) (.k (.int .u64 1))),zM 2 4]
 .ret))
def a186:AF:=⟨5,[.t 2],.code b186,none⟩
def b187:AC:=
 (zS [zL 3 0,zO 4 (.eq true .ptr (.t 3) (.k (.pointer none))),zC 5 (.f 130) [.t 4,(.k (.int .i64 1))]]
 (zS [zL 6 1,zO 7 (.bin .geq (.t 6) (.k (.int .i64 0))),zM 8 7,zG 9 (.load (.t 1)) 8 true,zG 10 (.bin .lss (.t 9) (.k (.int .i64 4))) 8 true,zO 11 (.pick (.t 8) (.t 10) (.k (.bool false))),zC 12 (.f 130) [.t 11,(.k (.int .i64 2))]]
 (zS [zL 13 0,zU 14 13,zF 15 0 14,zL 16 15,zO 17 (.eq false .ptr (.t 16) (.k (.pointer none))),zC 18 (.f 130) [.t 17,(.k (.int .i64 7))]]
 (.seq (.dreg (zQ (zL 19 0) (zQ (zU 20 19) (zQ (zF 21 1 20) (zQ (zL 22 21) (zQ (zL 23 2) (zQ (zB 24 .eql 22 23) (.loud (zC 25 (.f 130) [.t 24,(.k (.int .i64 8))]) [] .nil))))))))
 (zS [zL 26 0,zU 27 26,zF 28 1 27,zL 29 28,zO 30 (.bin .lss (.t 29) (.k (.int .u64 1099511627775))),zC 31 (.f 130) [.t 30,(.k (.int .i64 4))]]
 (zS [zL 32 0,zU 33 32,zF 34 0 33,zT 1 34 1]
 (.reg [zL 35 0,zU 36 35,zF 37 1 36,zL 38 37,zO 39 (.bin .add (.t 38) (.k (.int .u64 1))),zU 40 35,zF 41 1 40,zT 1 41 39])))))))
def a187:AF:=⟨42,[],.code b187,none⟩
def b188:AC:=
 (zS [zK 2 (.int .u64 0)]
 (zS [zM 3 0,zO 4 (.bin .add (.t 3) (.k (.int .u64 1))),zM 2 4]
 .ret))
def a188:AF:=⟨5,[.t 2],.code b188,none⟩
def b189:AC:=
 (.block 0 (.loop (.seq (zS [zL 3 1,zO 4 (.eq true .ptr (.t 3) (.k (.pointer none)))]
  (.cond (.t 4) .skip
  (.exit 0)))
  (.seq (.block 1 (zS [zM 9 0,zL 10 1,zU 11 10,zF 12 0 11,zL 13 12,zC 14 (.t 9) [.t 13],zO 15 (.un .not (.t 14))]
  (.cond (.t 15) .ret
  .skip)))
  (.reg [zL 5 1,zU 6 5,zF 7 1 6,zL 8 7,zT 1 1 8])))))
def a189:AF:=⟨16,[],.code b189,none⟩
def b190:AC:=
 (zS [zK 2 (.slice none 0 0),zK 3 (.int .i64 0)]
 (.seq (.block 0 (zS [zM 6 0,zO 7 (.eq false .ptr (.t 6) (.k (.pointer none))),zM 5 7]
 (.cond (.t 5) (zS [zK 2 (.slice none 0 0),zK 3 (.int .i64 1)]
 .ret)
 (zS [zM 9 0,zU 10 9,zF 11 1 10,zL 12 11,zO 13 (.bin .eql (.t 12) (.k (.int .i64 0))),zM 8 13]
 (.cond (.t 8) (zS [zK 2 (.slice none 0 0),zK 3 (.int .i64 8)]
 .ret)
 .skip)))))
 (zS [zM 14 0,zU 15 14,zF 16 0 15,zL 17 16,zU 18 17,zF 19 0 18,zL 20 19,zM 4 20]
 (zS [zM 21 0,zM 22 0,zU 23 22,zF 24 0 23,zL 25 24,zU 26 25,zF 27 1 26,zL 28 27,zU 29 21,zF 30 0 29,zT 1 30 28]
 (zS [zM 31 0,zU 32 31,zF 33 1 32,zL 34 33,zO 35 (.bin .sub (.t 34) (.k (.int .i64 1))),zU 36 31,zF 37 1 36,zT 1 37 35]
 (zS [zM 38 4,zM 2 38,zK 3 (.int .i64 0)]
 .ret))))))
def a190:AF:=⟨39,[.t 2,.t 3],.code b190,none⟩
def b191:AC:=
 (zS [zO 3 (.box 157 (.t 1)),zK 4 (.slice none 0 0)]
 (zS [zM 7 0,zC 8 (.f 208) [.t 7],zM 5 8]
 (.seq (zS [zM 9 5,zE 10 9,zK 11 (.int .i64 0)]
 (.block 0 (.loop (zS [zB 12 .lss 11 10]
  (.seq (.cond (.t 12) .skip
  (.exit 0))
  (.seq (.block 1 (zS [zM 13 11,zM 6 13]
  (.seq (.dreg (zQ (zM 14 5) (zQ (zM 15 6) (zQ (zI 16 2 14 15) (zQ (zF 17 0 16) (zQ (zL 18 17) (zQ (zF 19 0 3) (zQ (zL 20 19) (zQ (zB 21 .eql 18 20) .nil)))))))))
  (.cond (.t 21) (zS [zM 22 5,zM 23 6,zF 24 1 3,zL 25 24,zI 26 2 22 23,zF 27 1 26,zT 1 27 25]
  (zS [zM 28 5,zM 4 28]
  .ret))
  .skip))))
  (.reg [zO 29 (.bin .add (.t 11) (.k (.int .i64 1))),zM 11 29])))))))
 (zS [zM 30 5,zO 31 (.loadN 2 (.t 3)),zO 32 (.bslice 157 [(.int .i64 0),(.int .u64 0)] 1 [(0,2,(.t 31))]),zO 33 (.append 157 2 16 (.t 30) (.t 32)),zM 4 33]
 .ret))))
def a191:AF:=⟨34,[.t 4],.code b191,none⟩
def b192:AC:=
 (zS [zK 2 (.int .i64 0)]
 (.seq (zS [zM 5 0,zO 6 (.eq false .ptr (.t 5) (.k (.pointer none)))]
 (.cond (.t 6) (zS [zK 2 (.int .i64 0)]
 .ret)
 .skip))
 (zS [zO 3 (.alloc 3 [(.int .i64 0)]),zN (.store 1 (.t 3) (.k (.int .i64 0)))]
 (.seq (zS [zM 7 0,zU 8 7,zF 9 0 8,zL 10 9,zC 11 (.f 140) [.t 10]]
 (.block 0 (.rfunc (.t 11) [12] (.reg [zM 4 12])
  (.block 1 (.reg [zL 13 3,zM 14 4,zE 15 14,zB 16 .add 13 15,zT 1 3 16])))))
 (zS [zL 17 3,zM 2 17]
 .ret)))))
def a192:AF:=⟨18,[.t 2],.code b192,none⟩
def b195:AC:=
 (zS [zM 12 2,zM 13 1,zB 14 .sub 12 13,zM 10 14]
 (zS [zM 15 3,zM 16 2,zB 17 .sub 15 16,zM 11 17]
 (.seq (.block 0 (.loop (.seq (zS [zM 18 10,zM 19 11,zB 20 .neq 18 19]
  (.cond (.t 20) .skip
  (.exit 0)))
  (.block 1 (zS [zM 21 10,zM 22 11,zB 23 .gtr 21 22]
  (.cond (.t 23) (zS [zM 24 0,zM 25 2,zM 26 10,zB 27 .sub 25 26,zM 28 2,zM 29 11,zM 30 4,zC 31 (.f 209) [.t 24,.t 27,.t 28,.t 29,.t 30]]
  (.reg [zM 32 10,zM 33 11,zB 34 .sub 32 33,zM 10 34]))
  (zS [zM 35 0,zM 36 2,zM 37 10,zB 38 .sub 36 37,zM 39 2,zM 40 11,zB 41 .add 39 40,zM 42 10,zB 43 .sub 41 42,zM 44 10,zM 45 4,zC 46 (.f 209) [.t 35,.t 38,.t 43,.t 44,.t 45]]
  (.reg [zM 47 11,zM 48 10,zB 49 .sub 47 48,zM 11 49]))))))))
 (.reg [zM 50 0,zM 51 2,zM 52 10,zB 53 .sub 51 52,zM 54 2,zM 55 10,zM 56 4,zC 57 (.f 209) [.t 50,.t 53,.t 54,.t 55,.t 56]]))))
def a195:AF:=⟨58,[],.code b195,none⟩
def b202:AC:=
 (zS [zK 2 (.int .u64 0)]
 (.seq (zS [zM 3 0,zC 4 (.f 98) [.t 3],zO 5 (.un .not (.t 4))]
 (.cond (.t 5) (zS [zK 2 (.int .u64 9221120237041090560)]
 .ret)
 .skip))
 (zS [zM 6 0,zM 2 6]
 .ret)))
def a202:AF:=⟨7,[.t 2],.code b202,none⟩
def b203:AC:=
 (zS [zK 4 (.int .i64 0)]
 (.seq (.block 0 (zS [zM 6 0,zO 7 (.eq false .ptr (.t 6) (.k (.pointer none))),zM 5 7]
 (.cond (.t 5) (zS [zK 4 (.int .i64 1)]
 .ret)
 (zS [zM 9 0,zU 10 9,zF 11 1 10,zL 12 11,zO 13 (.un .not (.t 12)),zM 14 13,zV 15 0 14 false,zG 16 (.nilchk (.t 15)) 14 false,zG 17 (.faddr 2 (.t 16)) 14 false,zG 18 (.load (.t 17)) 14 false,zV 19 1 14 false,zG 20 (.bin .neq (.t 18) (.t 19)) 14 false,zO 21 (.pick (.t 14) (.k (.bool true)) (.t 20)),zM 8 21]
 (.cond (.t 8) (zS [zK 4 (.int .i64 8)]
 .ret)
 .skip)))))
 (zS [zK 4 (.int .i64 0)]
 .ret)))
def a203:AF:=⟨22,[.t 4],.code b203,none⟩
def b204:AC:=
 (zS [zO 4 (.alloc 155 [(.int .i64 0),(.int .u64 0),(.int .u64 0)]),zK 5 (.bool false)]
 (.seq (zS [zK 6 (.int .i64 0)]
 (.block 0 (.loop (.seq (zS [zM 7 0,zO 8 (.eq true .ptr (.t 7) (.k (.pointer none))),zM 9 8,zV 10 6 9 true,zV 11 0 9 true,zG 12 (.nilchk (.t 11)) 9 true,zG 13 (.faddr 0 (.t 12)) 9 true,zG 14 (.load (.t 13)) 9 true,zG 15 (.lenS (.t 14)) 9 true,zG 16 (.bin .lss (.t 10) (.t 15)) 9 true,zO 17 (.pick (.t 9) (.t 16) (.k (.bool false)))]
  (.cond (.t 17) .skip
  (.exit 0)))
  (.seq (.block 1 (zS [zM 20 0,zU 21 20,zF 22 0 21,zL 23 22,zM 24 6,zI 25 3 23 24,zF 26 0 25,zL 27 26,zM 28 1,zB 29 .eql 27 28]
  (.cond (.t 29) (zS [zM 30 0,zU 31 30,zF 32 0 31,zL 33 32,zM 34 6,zI 35 3 33 34,zO 36 (.loadN 3 (.t 35)),zT 3 4 36,zK 5 (.bool true)]
  .ret)
  .skip)))
  (.reg [zM 18 6,zO 19 (.bin .add (.t 18) (.k (.int .i64 1))),zM 6 19]))))))
 (zS [zO 37 (.build [(.int .i64 0),(.int .u64 0),(.int .u64 0)] []),zT 3 4 37,zK 5 (.bool false)]
 .ret)))
def a204:AF:=⟨38,[(.c 4 true 3),.t 5],.code b204,none⟩
def b205:AC:=
 (zS [zO 5 (.box 214 (.t 2))]
 (zS [zO 7 (.bslice 214 [] 0 []),zM 8 0,zU 9 8,zF 10 0 9,zL 11 10,zO 12 (.append 214 24 112 (.t 7) (.t 11)),zM 6 12]
 (zS [zM 13 6,zM 14 1,zO 15 (.loadN 24 (.t 5)),zI 16 24 13 14,zT 24 16 15]
 (.reg [zM 17 0,zM 18 6,zU 19 17,zF 20 0 19,zT 1 20 18]))))
def a205:AF:=⟨21,[],.code b205,none⟩
def b206:AC:=
 (zS [zK 2 (.int .i64 0)]
 (zS [zK 3 (.int .i64 0)]
 (.seq (zS [zK 4 (.int .i64 0)]
 (.block 0 (.loop (.seq (zS [zM 6 0,zO 7 (.eq true .ptr (.t 6) (.k (.pointer none))),zM 8 7,zV 9 4 8 true,zV 10 0 8 true,zG 11 (.nilchk (.t 10)) 8 true,zG 12 (.faddr 0 (.t 11)) 8 true,zG 13 (.load (.t 12)) 8 true,zG 14 (.lenS (.t 13)) 8 true,zG 15 (.bin .lss (.t 9) (.t 14)) 8 true,zO 16 (.pick (.t 8) (.t 15) (.k (.bool false)))]
  (.cond (.t 16) .skip
  (.exit 0)))
  (.seq (.block 1 (zS [zK 5 (.int .i64 0)]
  (.block 2 (.loop (.seq (zS [zM 19 5,zO 20 (.bin .lss (.t 19) (.k (.int .i64 12)))]
   (.cond (.t 20) .skip
   (.exit 2)))
   (.seq (.block 3 (zS [zM 23 0,zU 24 23,zF 25 0 24,zL 26 25,zM 27 4,zM 28 5,zI 29 24 26 27,zF 30 0 29,zO 31 (.iaddrA 12 1 (.t 30) (.t 28)),zL 32 31]
   (.cond (.t 32) (.reg [zM 33 3,zO 34 (.bin .add (.t 33) (.k (.int .i64 1))),zM 3 34])
   .skip)))
   (.reg [zM 21 5,zO 22 (.bin .add (.t 21) (.k (.int .i64 1))),zM 5 22])))))))
  (.reg [zM 17 4,zO 18 (.bin .add (.t 17) (.k (.int .i64 1))),zM 4 18]))))))
 (zS [zM 35 3,zM 2 35]
 .ret))))
def a206:AF:=⟨36,[.t 2],.code b206,none⟩
def b207:AC:=
 (zS [zL 3 0,zO 4 (.eq true .ptr (.t 3) (.k (.pointer none))),zC 5 (.f 130) [.t 4,(.k (.int .i64 1))]]
 (.seq (.dreg (zQ (zL 6 0) (zQ (zU 7 6) (zQ (zF 8 0 7) (zQ (zL 9 8) (zQ (zO 10 (.eq true .ptr (.t 9) (.k (.pointer none)))) (zQ (zM 11 10) (zQ (zG 12 (.load (.t 0)) 11 true) (zQ (zG 13 (.nilchk (.t 12)) 11 true) (zQ (zG 14 (.faddr 0 (.t 13)) 11 true) (zQ (zG 15 (.load (.t 14)) 11 true) (zQ (zG 16 (.nilchk (.t 15)) 11 true) (zQ (zG 17 (.load (.t 16)) 11 true) (zQ (zG 18 (.load (.t 1)) 11 true) (zQ (zG 19 (.bin .eql (.t 17) (.t 18)) 11 true) (zQ (zO 20 (.pick (.t 11) (.t 19) (.k (.bool false)))) (.loud (zC 21 (.f 130) [.t 20,(.k (.int .i64 8))]) [] .nil)))))))))))))))))
 (zS [zL 22 0,zU 23 22,zF 24 0 23,zN (.store 1 (.t 24) (.k (.pointer none)))]
 (.dreg (zQ (zL 25 0) (zQ (zL 26 2) (zQ (zL 27 0) (zQ (zU 28 27) (zQ (zF 29 1 28) (zQ (zL 30 29) (.loud (zC 31 (.t 26) [.t 30]) [zL 25 0] (zQ (zU 32 25) (zQ (zF 33 1 32) (.loud (zT 1 33 31) [] .nil))))))))))))))
def a207:AF:=⟨34,[],.code b207,none⟩
def b208:AC:=
 (zS [zK 2 (.slice none 0 0)]
 (.seq (zS [zM 3 0,⟨some 4,(.isnil false (.t 3)),none⟩]
 (.cond (.t 4) (zS [zK 2 (.slice none 0 0)]
 .ret)
 .skip))
 (zS [zO 5 (.bslice 157 [] 0 []),zM 6 0,zO 7 (.append 157 2 16 (.t 5) (.t 6)),zM 2 7]
 .ret)))
def a208:AF:=⟨8,[.t 2],.code b208,none⟩
def b209:AC:=
 (zS [zK 10 (.int .i64 0)]
 (.block 0 (.loop (.seq (zS [zM 11 10,zM 12 3,zB 13 .lss 11 12]
  (.cond (.t 13) .skip
  (.exit 0)))
  (.seq (.block 1 (.dreg (zQ (zM 16 0) (zQ (zM 17 1) (zQ (zM 18 10) (zQ (zB 19 .add 17 18) (zQ (zM 20 0) (zQ (zM 21 2) (zQ (zM 22 10) (zQ (zB 23 .add 21 22) (zQ (zM 24 0) (zQ (zM 25 2) (zQ (zM 26 10) (zQ (zB 27 .add 25 26) (zQ (zI 28 1 24 27) (zQ (zL 29 28) (zQ (zM 30 0) (zQ (zM 31 1) (zQ (zM 32 10) (zQ (zB 33 .add 31 32) (zQ (zI 34 1 30 33) (zQ (zL 35 34) (zQ (zI 36 1 16 19) (.loud (zT 1 36 29) [] (zQ (zI 37 1 20 23) (.loud (zT 1 37 35) [] .nil))))))))))))))))))))))))))
  (.reg [zM 14 10,zO 15 (.bin .add (.t 14) (.k (.int .i64 1))),zM 10 15]))))))
def a209:AF:=⟨38,[],.code b209,none⟩
def zP9:FuncId->Option AF
 |3=> some a3
 |4=> some a4
 |5=> some a5
 |6=> some a6
 |8=> some a8
 |9=> some a9
 |11=> some a11
 |12=> some a12
 |13=> some a13
 |14=> some a14
 |16=> some a16
 |17=> some a17
 |18=> some a18
 |19=> some a19
 |20=> some a20
 |23=> some a23
 |24=> some a24
 |25=> some a25
 |26=> some a26
 |27=> some a27
 |28=> some a28
 |29=> some a29
 |30=> some a30
 |31=> some a31
 |32=> some a32
 |33=> some a33
 |34=> some a34
 |35=> some a35
 |36=> some a36
 |42=> some a42
 |43=> some a43
 |44=> some a44
 |45=> some a45
 |46=> some a46
 |47=> some a47
 |48=> some a48
 |49=> some a49
 |50=> some a50
 |51=> some a51
 |52=> some a52
 |53=> some a53
 |54=> some a54
 |55=> some a55
 |56=> some a56
 |57=> some a57
 |58=> some a58
 |59=> some a59
 |60=> some a60
 |61=> some a61
 |62=> some a62
 |63=> some a63
 |64=> some a64
 |65=> some a65
 |66=> some a66
 |75=> some a75
 |76=> some a76
 |77=> some a77
 |78=> some a78
 |79=> some a79
 |80=> some a80
 |81=> some a81
 |82=> some a82
 |83=> some a83
 |84=> some a84
 |85=> some a85
 |86=> some a86
 |87=> some a87
 |88=> some a88
 |89=> some a89
 |90=> some a90
 |91=> some a91
 |92=> some a92
 |93=> some a93
 |_=> none
theorem zZs:∀f af,zP9 f=some af->AFOk Tryz.prog ext f af:=by
 intro f af h
 unfold zP9 at h
 split at h
 ·cases h;exact okZ Tryz.func3
 ·cases h;exact okZ Tryz.func4
 ·cases h;exact okZ Tryz.func5
 ·cases h;exact okZ Tryz.func6
 ·cases h;exact okZ Tryz.func8
 ·cases h;exact okZ Tryz.func9
 ·cases h;exact okZ Tryz.func11
 ·cases h;exact okZ Tryz.func12
 ·cases h;exact okZ Tryz.func13
 ·cases h;exact okZ Tryz.func14
 ·cases h;exact okZ Tryz.func16
 ·cases h;exact okZ Tryz.func17
 ·cases h;exact okZ Tryz.func18
 ·cases h;exact okZ Tryz.func19
 ·cases h;exact okZ Tryz.func20
 ·cases h;exact okZ Tryz.func23
 ·cases h;exact okZ Tryz.func24
 ·cases h;exact okZ Tryz.func25
 ·cases h;exact okZ Tryz.func26
 ·cases h;exact okZ Tryz.func27
 ·cases h;exact okZ Tryz.func28
 ·cases h;exact okZ Tryz.func29
 ·cases h;exact okZ Tryz.func30
 ·cases h;exact okZ Tryz.func31
 ·cases h;exact okZ Tryz.func32
 ·cases h;exact okZ Tryz.func33
 ·cases h;exact okZ Tryz.func34
 ·cases h;exact okZ Tryz.func35
 ·cases h;exact okZ Tryz.func36
 ·cases h;exact okZ Tryz.func42
 ·cases h;exact okZ Tryz.func43
 ·cases h;exact okZ Tryz.func44
 ·cases h;exact okZ Tryz.func45
 ·cases h;exact okZ Tryz.func46
 ·cases h;exact okZ Tryz.func47
 ·cases h;exact okZ Tryz.func48
 ·cases h;exact okZ Tryz.func49
 ·cases h;exact okZ Tryz.func50
 ·cases h;exact okZ Tryz.func51
 ·cases h;exact okZ Tryz.func52
 ·cases h;exact okZ Tryz.func53
 ·cases h;exact okZ Tryz.func54
 ·cases h;exact okZ Tryz.func55
 ·cases h;exact okZ Tryz.func56
 ·cases h;exact okZ Tryz.func57
 ·cases h;exact okZ Tryz.func58
 ·cases h;exact okZ Tryz.func59
 ·cases h;exact okZ Tryz.func60
 ·cases h;exact okZ Tryz.func61
 ·cases h;exact okZ Tryz.func62
 ·cases h;exact okZ Tryz.func63
 ·cases h;exact okZ Tryz.func64
 ·cases h;exact okZ Tryz.func65
 ·cases h;exact okZ Tryz.func66
 ·cases h;exact okZ Tryz.func75
 ·cases h;exact okZ Tryz.func76
 ·cases h;exact okZ Tryz.func77
 ·cases h;exact okZ Tryz.func78
 ·cases h;exact okZ Tryz.func79
 ·cases h;exact okZ Tryz.func80
 ·cases h;exact okZ Tryz.func81
 ·cases h;exact okZ Tryz.func82
 ·cases h;exact okZ Tryz.func83
 ·cases h;exact okZ Tryz.func84
 ·cases h;exact okZ Tryz.func85
 ·cases h;exact okZ Tryz.func86
 ·cases h;exact okZ Tryz.func87
 ·cases h;exact okZ Tryz.func88
 ·cases h;exact okZ Tryz.func89
 ·cases h;exact okZ Tryz.func90
 ·cases h;exact okZ Tryz.func91
 ·cases h;exact okZ Tryz.func92
 ·cases h;exact okZ Tryz.func93
 ·cases h
def zP8:FuncId->Option AF
 |94=> some a94
 |95=> some a95
 |96=> some a96
 |97=> some a97
 |98=> some a98
 |104=> some a104
 |105=> some a105
 |106=> some a106
 |107=> some a107
 |108=> some a108
 |109=> some a109
 |110=> some a110
 |111=> some a111
 |112=> some a112
 |113=> some a113
 |114=> some a114
 |116=> some a116
 |117=> some a117
 |118=> some a118
 |119=> some a119
 |120=> some a120
 |121=> some a121
 |122=> some a122
 |123=> some a123
 |124=> some a124
 |125=> some a125
 |126=> some a126
 |127=> some a127
 |128=> some a128
 |129=> some a129
 |130=> some a130
 |131=> some a131
 |132=> some a132
 |133=> some a133
 |134=> some a134
 |135=> some a135
 |136=> some a136
 |137=> some a137
 |138=> some a138
 |139=> some a139
 |140=> some a140
 |141=> some a141
 |142=> some a142
 |143=> some a143
 |144=> some a144
 |145=> some a145
 |146=> some a146
 |147=> some a147
 |148=> some a148
 |154=> some a154
 |155=> some a155
 |156=> some a156
 |166=> some a166
 |167=> some a167
 |168=> some a168
 |169=> some a169
 |170=> some a170
 |171=> some a171
 |172=> some a172
 |173=> some a173
 |174=> some a174
 |175=> some a175
 |176=> some a176
 |177=> some a177
 |178=> some a178
 |179=> some a179
 |180=> some a180
 |181=> some a181
 |182=> some a182
 |183=> some a183
 |184=> some a184
 |185=> some a185
 |186=> some a186
 |187=> some a187
 |188=> some a188
 |189=> some a189
 |190=> some a190
 |191=> some a191
 |192=> some a192
 |_=> none
theorem zZr:∀f af,zP8 f=some af->AFOk Tryz.prog ext f af:=by
 intro f af h
 unfold zP8 at h
 split at h
 ·cases h;exact okZ Tryz.func94
 ·cases h;exact okZ Tryz.func95
 ·cases h;exact okZ Tryz.func96
 ·cases h;exact okZ Tryz.func97
 ·cases h;exact okZ Tryz.func98
 ·cases h;exact okZ Tryz.func104
 ·cases h;exact okZ Tryz.func105
 ·cases h;exact okZ Tryz.func106
 ·cases h;exact okZ Tryz.func107
 ·cases h;exact okZ Tryz.func108
 ·cases h;exact okZ Tryz.func109
 ·cases h;exact okZ Tryz.func110
 ·cases h;exact okZ Tryz.func111
 ·cases h;exact okZ Tryz.func112
 ·cases h;exact okZ Tryz.func113
 ·cases h;exact okZ Tryz.func114
 ·cases h;exact okZ Tryz.func116
 ·cases h;exact okZ Tryz.func117
 ·cases h;exact okZ Tryz.func118
 ·cases h;exact okZ Tryz.func119
 ·cases h;exact okZ Tryz.func120
 ·cases h;exact okZ Tryz.func121
 ·cases h;exact okZ Tryz.func122
 ·cases h;exact okZ Tryz.func123
 ·cases h;exact okZ Tryz.func124
 ·cases h;exact okZ Tryz.func125
 ·cases h;exact okZ Tryz.func126
 ·cases h;exact okZ Tryz.func127
 ·cases h;exact okZ Tryz.func128
 ·cases h;exact okZ Tryz.func129
 ·cases h;exact okZ Tryz.func130
 ·cases h;exact okZ Tryz.func131
 ·cases h;exact okZ Tryz.func132
 ·cases h;exact okZ Tryz.func133
 ·cases h;exact okZ Tryz.func134
 ·cases h;exact okZ Tryz.func135
 ·cases h;exact okZ Tryz.func136
 ·cases h;exact okZ Tryz.func137
 ·cases h;exact okZ Tryz.func138
 ·cases h;exact okZ Tryz.func139
 ·cases h;exact okZ Tryz.func140
 ·cases h;exact okZ Tryz.func141
 ·cases h;exact okZ Tryz.func142
 ·cases h;exact okZ Tryz.func143
 ·cases h;exact okZ Tryz.func144
 ·cases h;exact okZ Tryz.func145
 ·cases h;exact okZ Tryz.func146
 ·cases h;exact okZ Tryz.func147
 ·cases h;exact okZ Tryz.func148
 ·cases h;exact okZ Tryz.func154
 ·cases h;exact okZ Tryz.func155
 ·cases h;exact okZ Tryz.func156
 ·cases h;exact okZ Tryz.func166
 ·cases h;exact okZ Tryz.func167
 ·cases h;exact okZ Tryz.func168
 ·cases h;exact okZ Tryz.func169
 ·cases h;exact okZ Tryz.func170
 ·cases h;exact okZ Tryz.func171
 ·cases h;exact okZ Tryz.func172
 ·cases h;exact okZ Tryz.func173
 ·cases h;exact okZ Tryz.func174
 ·cases h;exact okZ Tryz.func175
 ·cases h;exact okZ Tryz.func176
 ·cases h;exact okZ Tryz.func177
 ·cases h;exact okZ Tryz.func178
 ·cases h;exact okZ Tryz.func179
 ·cases h;exact okZ Tryz.func180
 ·cases h;exact okZ Tryz.func181
 ·cases h;exact okZ Tryz.func182
 ·cases h;exact okZ Tryz.func183
 ·cases h;exact okZ Tryz.func184
 ·cases h;exact okZ Tryz.func185
 ·cases h;exact okZ Tryz.func186
 ·cases h;exact okZ Tryz.func187
 ·cases h;exact okZ Tryz.func188
 ·cases h;exact okZ Tryz.func189
 ·cases h;exact okZ Tryz.func190
 ·cases h;exact okZ Tryz.func191
 ·cases h;exact okZ Tryz.func192
 ·cases h
def zP7:FuncId->Option AF
 |195=> some a195
 |202=> some a202
 |203=> some a203
 |204=> some a204
 |205=> some a205
 |206=> some a206
 |207=> some a207
 |208=> some a208
 |209=> some a209
 |_=> none
theorem zZq:∀f af,zP7 f=some af->AFOk Tryz.prog ext f af:=by
 intro f af h
 unfold zP7 at h
 split at h
 ·cases h;exact okZ Tryz.func195
 ·cases h;exact okZ Tryz.func202
 ·cases h;exact okZ Tryz.func203
 ·cases h;exact okZ Tryz.func204
 ·cases h;exact okZ Tryz.func205
 ·cases h;exact okZ Tryz.func206
 ·cases h;exact okZ Tryz.func207
 ·cases h;exact okZ Tryz.func208
 ·cases h;exact okZ Tryz.func209
 ·cases h
def forms:FuncId->Option AF:=fun f=> if f<94 then zP9 f else if f<193 then zP8 f else zP7 f
theorem qI1:∀f af,forms f=some af->AFOk Tryz.prog ext f af:=by
 intro f af h
 unfold forms at h
 repeat' split at h
 ·exact zZs f af h
 ·exact zZr f af h
 ·exact zZq f af h
theorem forms3:forms 3=some a3:=rfl
theorem forms4:forms 4=some a4:=rfl
theorem forms5:forms 5=some a5:=rfl
theorem forms6:forms 6=some a6:=rfl
theorem forms8:forms 8=some a8:=rfl
theorem forms9:forms 9=some a9:=rfl
theorem forms11:forms 11=some a11:=rfl
theorem forms12:forms 12=some a12:=rfl
theorem forms13:forms 13=some a13:=rfl
theorem forms14:forms 14=some a14:=rfl
theorem forms16:forms 16=some a16:=rfl
theorem forms17:forms 17=some a17:=rfl
theorem forms18:forms 18=some a18:=rfl
theorem forms19:forms 19=some a19:=rfl
theorem forms20:forms 20=some a20:=rfl
theorem forms23:forms 23=some a23:=rfl
theorem forms24:forms 24=some a24:=rfl
theorem forms25:forms 25=some a25:=rfl
theorem forms26:forms 26=some a26:=rfl
theorem forms27:forms 27=some a27:=rfl
theorem forms28:forms 28=some a28:=rfl
theorem forms29:forms 29=some a29:=rfl
theorem forms30:forms 30=some a30:=rfl
theorem forms31:forms 31=some a31:=rfl
theorem forms32:forms 32=some a32:=rfl
theorem forms33:forms 33=some a33:=rfl
theorem forms34:forms 34=some a34:=rfl
theorem forms35:forms 35=some a35:=rfl
theorem forms36:forms 36=some a36:=rfl
theorem forms42:forms 42=some a42:=rfl
theorem forms43:forms 43=some a43:=rfl
theorem forms44:forms 44=some a44:=rfl
theorem forms45:forms 45=some a45:=rfl
theorem forms46:forms 46=some a46:=rfl
theorem forms47:forms 47=some a47:=rfl
theorem forms48:forms 48=some a48:=rfl
theorem forms49:forms 49=some a49:=rfl
theorem forms50:forms 50=some a50:=rfl
theorem forms51:forms 51=some a51:=rfl
theorem forms52:forms 52=some a52:=rfl
theorem forms53:forms 53=some a53:=rfl
theorem forms54:forms 54=some a54:=rfl
theorem forms55:forms 55=some a55:=rfl
theorem forms56:forms 56=some a56:=rfl
theorem forms57:forms 57=some a57:=rfl
theorem forms58:forms 58=some a58:=rfl
theorem forms59:forms 59=some a59:=rfl
theorem forms60:forms 60=some a60:=rfl
theorem forms61:forms 61=some a61:=rfl
theorem forms62:forms 62=some a62:=rfl
theorem forms63:forms 63=some a63:=rfl
theorem forms64:forms 64=some a64:=rfl
theorem forms65:forms 65=some a65:=rfl
theorem forms66:forms 66=some a66:=rfl
theorem forms75:forms 75=some a75:=rfl
theorem forms76:forms 76=some a76:=rfl
theorem forms77:forms 77=some a77:=rfl
theorem forms78:forms 78=some a78:=rfl
theorem forms79:forms 79=some a79:=rfl
theorem forms80:forms 80=some a80:=rfl
theorem forms81:forms 81=some a81:=rfl
theorem forms82:forms 82=some a82:=rfl
theorem forms83:forms 83=some a83:=rfl
theorem forms84:forms 84=some a84:=rfl
theorem forms85:forms 85=some a85:=rfl
theorem forms86:forms 86=some a86:=rfl
theorem forms87:forms 87=some a87:=rfl
theorem forms88:forms 88=some a88:=rfl
theorem forms89:forms 89=some a89:=rfl
theorem forms90:forms 90=some a90:=rfl
theorem forms91:forms 91=some a91:=rfl
theorem forms92:forms 92=some a92:=rfl
theorem forms93:forms 93=some a93:=rfl
theorem forms94:forms 94=some a94:=rfl
theorem forms95:forms 95=some a95:=rfl
theorem forms96:forms 96=some a96:=rfl
theorem forms97:forms 97=some a97:=rfl
theorem forms98:forms 98=some a98:=rfl
theorem forms104:forms 104=some a104:=rfl
theorem forms105:forms 105=some a105:=rfl
theorem forms106:forms 106=some a106:=rfl
theorem forms107:forms 107=some a107:=rfl
theorem forms108:forms 108=some a108:=rfl
theorem forms109:forms 109=some a109:=rfl
theorem forms110:forms 110=some a110:=rfl
theorem forms111:forms 111=some a111:=rfl
theorem forms112:forms 112=some a112:=rfl
theorem forms113:forms 113=some a113:=rfl
theorem forms114:forms 114=some a114:=rfl
theorem forms116:forms 116=some a116:=rfl
theorem forms117:forms 117=some a117:=rfl
theorem forms118:forms 118=some a118:=rfl
theorem forms119:forms 119=some a119:=rfl
theorem forms120:forms 120=some a120:=rfl
theorem forms121:forms 121=some a121:=rfl
theorem forms122:forms 122=some a122:=rfl
theorem forms123:forms 123=some a123:=rfl
theorem forms124:forms 124=some a124:=rfl
theorem forms125:forms 125=some a125:=rfl
theorem forms126:forms 126=some a126:=rfl
theorem forms127:forms 127=some a127:=rfl
theorem forms128:forms 128=some a128:=rfl
theorem forms129:forms 129=some a129:=rfl
theorem forms130:forms 130=some a130:=rfl
theorem forms131:forms 131=some a131:=rfl
theorem forms132:forms 132=some a132:=rfl
theorem forms133:forms 133=some a133:=rfl
theorem forms134:forms 134=some a134:=rfl
theorem forms135:forms 135=some a135:=rfl
theorem forms136:forms 136=some a136:=rfl
theorem forms137:forms 137=some a137:=rfl
theorem forms138:forms 138=some a138:=rfl
theorem forms139:forms 139=some a139:=rfl
theorem forms140:forms 140=some a140:=rfl
theorem forms141:forms 141=some a141:=rfl
theorem forms142:forms 142=some a142:=rfl
theorem forms143:forms 143=some a143:=rfl
theorem forms144:forms 144=some a144:=rfl
theorem forms145:forms 145=some a145:=rfl
theorem forms146:forms 146=some a146:=rfl
theorem forms147:forms 147=some a147:=rfl
theorem forms148:forms 148=some a148:=rfl
theorem forms154:forms 154=some a154:=rfl
theorem forms155:forms 155=some a155:=rfl
theorem forms156:forms 156=some a156:=rfl
theorem forms166:forms 166=some a166:=rfl
theorem forms167:forms 167=some a167:=rfl
theorem forms168:forms 168=some a168:=rfl
theorem forms169:forms 169=some a169:=rfl
theorem forms170:forms 170=some a170:=rfl
theorem forms171:forms 171=some a171:=rfl
theorem forms172:forms 172=some a172:=rfl
theorem forms173:forms 173=some a173:=rfl
theorem forms174:forms 174=some a174:=rfl
theorem forms175:forms 175=some a175:=rfl
theorem forms176:forms 176=some a176:=rfl
theorem forms177:forms 177=some a177:=rfl
theorem forms178:forms 178=some a178:=rfl
theorem forms179:forms 179=some a179:=rfl
theorem forms180:forms 180=some a180:=rfl
theorem forms181:forms 181=some a181:=rfl
theorem forms182:forms 182=some a182:=rfl
theorem forms183:forms 183=some a183:=rfl
theorem forms184:forms 184=some a184:=rfl
theorem forms185:forms 185=some a185:=rfl
theorem forms186:forms 186=some a186:=rfl
theorem forms187:forms 187=some a187:=rfl
theorem forms188:forms 188=some a188:=rfl
theorem forms189:forms 189=some a189:=rfl
theorem forms190:forms 190=some a190:=rfl
theorem forms191:forms 191=some a191:=rfl
theorem forms192:forms 192=some a192:=rfl
theorem forms195:forms 195=some a195:=rfl
theorem forms202:forms 202=some a202:=rfl
theorem forms203:forms 203=some a203:=rfl
theorem forms204:forms 204=some a204:=rfl
theorem forms205:forms 205=some a205:=rfl
theorem forms206:forms 206=some a206:=rfl
theorem forms207:forms 207=some a207:=rfl
theorem forms208:forms 208=some a208:=rfl
theorem forms209:forms 209=some a209:=rfl
theorem hext:ExtOk Tryz.prog ext:=.one fun args w=> run_callFunc_extern Tryz.func149 (by kernel_rfl) (by kernel_rfl) (by kernel_rfl) (by kernel_rfl) args w
theorem hmix:Tryz.prog.follows .mixedOrders=true:=by kernel_rfl
end YtnemoimbeefngaaGreat
end Go.Proofs
