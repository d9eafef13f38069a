/-
  THE FUNCTIONS of this seat in their plain form, and that each is the loaded one's.
-/
import Derived.Test.YtapbabkndhaemaaGreatProg
import Derived.Test.YtapbabkndhaemaaGreatPA2
import Derived.Laws.Externs

set_option maxHeartbeats 32000000
set_option maxRecDepth 100000
namespace Go.Proofs
namespace YtapbabkndhaemaaGreat
open Go.Abs
abbrev zM (d s:Nat):AIns:=⟨some d,.op (.mv (.t s)),none⟩
abbrev zK (d:Nat) (v:Value):AIns:=⟨some d,.op (.mv (.k v)),none⟩
abbrev zO (d:Nat) (o:AOp):AIns:=⟨some d,.op o,none⟩
abbrev zG (d:Nat) (o:AOp) (g:Nat) (b:Bool):AIns:=⟨some d,.op o,some (g,b)⟩
abbrev zN (o:AOp):AIns:=⟨none,.op o,none⟩
abbrev zC (d:Nat) (f:Opd) (l:List Opd):AIns:=⟨some d,.call f l,none⟩
abbrev zS (l:List AIns) (t:AC):AC:=.seq (.reg l) t
abbrev zL (d a:Nat):AIns:=⟨some d,.op (.load (.t a)),none⟩
abbrev zF (d k a:Nat):AIns:=⟨some d,.op (.faddr k (.t a)),none⟩
abbrev zE (d a:Nat):AIns:=⟨some d,.op (.lenS (.t a)),none⟩
abbrev zB (d:Nat) (o:BinOp) (a b:Nat):AIns:=⟨some d,.op (.bin o (.t a) (.t b)),none⟩
abbrev zI (d s a b:Nat):AIns:=⟨some d,.op (.iaddrS s (.t a) (.t b)),none⟩
abbrev zT (s a b:Nat):AIns:=⟨none,.op (.store s (.t a) (.t b)),none⟩
abbrev zU (d a:Nat):AIns:=⟨some d,.op (.nilchk (.t a)),none⟩
abbrev zQ (i:AIns) (t:DT):DT:=.quiet i t
abbrev zV (d a g:Nat) (b:Bool):AIns:=⟨some d,.op (.mv (.t a)),some (g,b)⟩
attribute [simp] zM zK zO zG zN zC zS zL zF zE zB zI zT zU zQ zV
theorem okZ {P:Program} {ext:FuncId->Option Ext1} {f:FuncId} {fn:Func} {af:AF} (h1:P.funcs[f]?=some fn) (h2:fn.ntmps=af.n:=by kernel_rfl) (h3:(fn.body.bind fun c=> zSn P ext fn.ntmps c)=some (af.body,af.rcv):=by kernel_rfl)
 (h4 : zE2 P fn.ntmps fn.results.toList = some af.res := by kernel_rfl) (h5 : (fn.name == "runtime.NumGoroutine") = false := by kernel_rfl) : AFOk P ext f af := .of h1 h2 h3 h4 h5
def ext:FuncId->Option Ext1:=fun g=> if g=146 then some .frombits else none
def b6:AC:=
 (zS [zK 2 (.bool false)]
 (zS [zM 6 0,zC 7 (.f 16) [.t 6],zM 3 7]
 (.seq (zS [zC 8 (.f 12) [],zO 9 (.un .not (.t 8)),zM 10 9,zV 11 3 10 false,zG 12 (.eq false .ptr (.t 11) (.k (.pointer none))) 10 false,zO 13 (.pick (.t 10) (.k (.bool true)) (.t 12))]
 (.cond (.t 13) (zS [zK 2 (.bool false)]
 .ret)
 .skip))
 (zS [zM 15 3,zC 16 (.f 29) [.t 15],zC 17 (.f 11) [],zM 18 3,zC 19 (.f 30) [.t 18],zM 20 3,zC 21 (.f 24) [.t 20],zC 22 (.f 28) [.t 16,.t 17,.t 19,.t 21],zM 14 22,zO 23 (.extract (.t 14) 0),zO 24 (.extract (.t 14) 1),zM 4 23,zM 5 24]
 (zS [zM 25 5,zO 26 (.bin .eql (.t 25) (.k (.int .i64 0))),zM 2 26]
 .ret)))))
def a6:AF:=⟨27,[.t 2],.code b6,none⟩
def b7:AC:=
 (zS [zK 2 (.bool false)]
 (zS [zM 8 0,zC 9 (.f 16) [.t 8],zM 3 9]
 (.seq (zS [zC 10 (.f 12) [],zO 11 (.un .not (.t 10)),zM 12 11,zV 13 3 12 false,zG 14 (.eq false .ptr (.t 13) (.k (.pointer none))) 12 false,zO 15 (.pick (.t 12) (.k (.bool true)) (.t 14))]
 (.cond (.t 15) (zS [zK 2 (.bool false)]
 .ret)
 .skip))
 (zS [zM 17 3,zC 18 (.f 29) [.t 17],zC 19 (.f 11) [],zM 20 3,zC 21 (.f 30) [.t 20],zM 22 3,zC 23 (.f 24) [.t 22],zC 24 (.f 31) [.t 18,.t 19,.t 21,.t 23],zM 16 24,zO 25 (.extract (.t 16) 0),zO 26 (.extract (.t 16) 1),zM 4 25,zM 5 26]
 (.seq (zS [zM 27 5,zO 28 (.bin .neq (.t 27) (.k (.int .i64 0))),zM 29 28,zV 30 4 29 false,zG 31 (.lenS (.t 30)) 29 false,zV 32 3 29 false,⟨some 33,(.call (.f 21) [.t 32]),(some (29,false))⟩,zG 34 (.lenS (.t 33)) 29 false,zG 35 (.bin .neq (.t 31) (.t 34)) 29 false,zO 36 (.pick (.t 29) (.k (.bool true)) (.t 35))]
 (.cond (.t 36) (zS [zK 2 (.bool false)]
 .ret)
 .skip))
 (zS [zK 6 (.bool false)]
 (.seq (zS [zK 7 (.int .i64 0)]
 (.block 0 (.loop (.seq (zS [zM 37 7,zO 38 (.bin .lss (.t 37) (.k (.int .i64 4)))]
  (.cond (.t 38) .skip
  (.exit 0)))
  (.seq (.block 1 (.reg [zM 41 6,zM 42 41,zV 43 3 42 false,zV 44 7 42 false,⟨some 45,(.call (.f 25) [.t 43,.t 44]),(some (42,false))⟩,zO 46 (.pick (.t 42) (.k (.bool true)) (.t 45)),zM 6 46]))
  (.reg [zM 39 7,zO 40 (.bin .add (.t 39) (.k (.int .i64 1))),zM 7 40]))))))
 (zS [zM 47 6,zM 48 47,zV 49 4 48 false,zV 50 3 48 false,⟨some 51,(.call (.f 21) [.t 50]),(some (48,false))⟩,⟨some 52,(.call (.f 26) [.t 49,.t 51]),(some (48,false))⟩,zO 53 (.pick (.t 48) (.k (.bool true)) (.t 52)),zM 2 53]
 .ret))))))))
def a7:AF:=⟨54,[.t 2],.code b7,none⟩
def b10:AC:=
 (zS [zK 4 (.pointer none)]
 (zS [zM 7 1,zC 8 (.f 41) [.t 7],zM 5 8]
 (zS [zO 6 (.mv (.f 42))]
 (.seq (zS [zM 9 0,zE 10 9,zO 11 (.bin .lss (.t 10) (.k (.int .i64 1))),zM 12 11,zV 13 0 12 false,zG 14 (.lenS (.t 13)) 12 false,zG 15 (.bin .gtr (.t 14) (.k (.int .i64 12))) 12 false,zO 16 (.pick (.t 12) (.k (.bool true)) (.t 15)),zM 17 16,zV 18 0 17 false,zV 19 6 17 false,⟨some 20,(.call (.f 44) [.t 18,.t 19]),(some (17,false))⟩,zO 21 (.pick (.t 17) (.k (.bool true)) (.t 20)),zM 22 21,zV 23 5 22 false,zG 24 (.eq false .ptr (.t 23) (.k (.pointer none))) 22 false,zO 25 (.pick (.t 22) (.k (.bool true)) (.t 24))]
 (.cond (.t 25) (zS [zK 4 (.pointer none)]
 .ret)
 .skip))
 (zS [zM 26 5,zM 27 0,zC 28 (.f 45) [.t 27],zO 29 (.build [(.pointer none),(.slice none 0 0),(.pointer none),(.pointer none),(.pointer none),(.pointer none),(.slice none 0 0),(.slice none 0 0)] [(0,1,(.t 26)),(1,1,(.t 28))]),zO 30 (.box 89 (.t 29)),zM 4 30]
 .ret)))))
def a10:AF:=⟨31,[.t 4],.code b10,none⟩
def b11:AC:=
 (zS [zK 0 (.slice none 0 0)]
 (zS [zO 1 (.bslice 30 [(.int .u64 0),(.int .u64 0),(.int .u64 0),(.int .u64 0),(.int .u64 0)] 5 [(0,1,(.k (.int .u64 0))),(1,1,(.k (.int .u64 4607182418800017408))),(2,1,(.k (.int .u64 9221120237041090560))),(3,1,(.k (.int .u64 9223372036854775808))),(4,1,(.k (.int .u64 0)))]),zM 0 1]
 .ret))
def a11:AF:=⟨2,[.t 0],.code b11,none⟩
def b12:AC:=
 (zS [zK 0 (.bool false)]
 (zS [zC 8 (.f 11) [],zC 9 (.f 10) [.t 8,(.k (.int .i64 3))],zM 1 9]
 (zS [zM 11 1,zC 12 (.f 13) [.t 11,(.k (.int .i64 1))],zM 10 12,zO 13 (.extract (.t 10) 0),zO 14 (.extract (.t 10) 1),zM 2 13,zM 3 14]
 (zS [zM 15 1,zO 16 (.build [(.int .u8 0),(.int .i64 0),(.int .u64 0)] [(0,1,(.k (.int .u8 1))),(1,1,(.k (.int .i64 1)))]),zC 17 (.f 14) [.t 15,(.k (.int .i64 1)),.t 16],zM 4 17]
 (zS [zM 18 1,zC 19 (.f 15) [.t 18,(.k (.int .i64 1))]]
 (zS [zM 20 1,zC 21 (.f 15) [.t 20,(.k (.int .i64 1))]]
 (zS [zM 22 1,zC 23 (.f 15) [.t 22,(.k (.int .i64 1))],zO 5 (.alloc 41 [(.bool false),(.int .u64 0),(.bool false),(.int .i64 0),(.bool false),(.int .u8 0),(.int .i64 0)]),zT 7 5 23]
 (zS [zM 24 1,zO 25 (.build [(.int .u8 0),(.int .i64 0),(.int .u64 0)] [(0,1,(.k (.int .u8 6)))]),zC 26 (.f 14) [.t 24,(.k (.int .i64 1)),.t 25],zM 6 26]
 (zS [zM 27 1,zC 28 (.f 15) [.t 27,(.k (.int .i64 1))],zO 7 (.alloc 41 [(.bool false),(.int .u64 0),(.bool false),(.int .i64 0),(.bool false),(.int .u8 0),(.int .i64 0)]),zT 7 7 28]
 (zS [zM 29 2,zO 30 (.bin .eql (.t 29) (.k (.int .i64 0))),zM 31 30,zV 32 3 31 true,zG 33 (.bin .eql (.t 32) (.k (.int .i64 0))) 31 true,zO 34 (.pick (.t 31) (.t 33) (.k (.bool false))),zM 35 34,zV 36 4 35 true,zG 37 (.bin .eql (.t 36) (.k (.int .i64 0))) 35 true,zO 38 (.pick (.t 35) (.t 37) (.k (.bool false))),zM 39 38,zV 40 6 39 true,zG 41 (.bin .eql (.t 40) (.k (.int .i64 0))) 39 true,zO 42 (.pick (.t 39) (.t 41) (.k (.bool false))),zM 43 42,zG 44 (.faddr 0 (.t 5)) 43 true,zG 45 (.load (.t 44)) 43 true,zO 46 (.pick (.t 43) (.t 45) (.k (.bool false))),zM 47 46,zG 48 (.faddr 1 (.t 5)) 47 true,zG 49 (.load (.t 48)) 47 true,zG 50 (.bin .eql (.t 49) (.k (.int .u64 4607182418800017408))) 47 true,zO 51 (.pick (.t 47) (.t 50) (.k (.bool false))),zM 52 51,zG 53 (.faddr 4 (.t 7)) 52 true,zG 54 (.load (.t 53)) 52 true,zO 55 (.pick (.t 52) (.t 54) (.k (.bool false))),zM 56 55,zG 57 (.faddr 5 (.t 7)) 56 true,zG 58 (.load (.t 57)) 56 true,zG 59 (.bin .eql (.t 58) (.k (.int .u8 0))) 56 true,zO 60 (.pick (.t 56) (.t 59) (.k (.bool false))),zM 61 60,zV 62 1 61 true,⟨some 63,(.call (.f 29) [.t 62]),(some (61,true))⟩,zG 64 (.lenS (.t 63)) 61 true,zG 65 (.bin .eql (.t 64) (.k (.int .i64 4))) 61 true,zO 66 (.pick (.t 61) (.t 65) (.k (.bool false))),zM 0 66]
 .ret))))))))))
def a12:AF:=⟨67,[.t 0],.code b12,none⟩
def b13:AC:=
 (zS [zK 4 (.int .i64 0),zK 5 (.int .i64 0)]
 (.seq (zS [zM 9 0,zM 10 1,zC 11 (.f 46) [.t 9,.t 10],zM 6 11]
 (zS [zM 12 6,zO 13 (.bin .neq (.t 12) (.k (.int .i64 0)))]
 (.cond (.t 13) (zS [zM 14 6,zK 4 (.int .i64 0),zM 5 14]
 .ret)
 .skip)))
 (.seq (zS [zM 15 0,zM 16 1,zU 17 15,zF 18 2 17,zO 19 (.iaddrA 4 1 (.t 18) (.t 16)),zL 20 19,zO 21 (.eq true .ptr (.t 20) (.k (.pointer none)))]
 (.cond (.t 21) (zS [zK 4 (.int .i64 0),zK 5 (.int .i64 8)]
 .ret)
 .skip))
 (zS [zM 22 0,zU 23 22,zF 24 7 23,zL 25 24,zE 26 25,zM 7 26]
 (.seq (zS [zM 27 7,zO 28 (.bin .geq (.t 27) (.k (.int .i64 64)))]
 (.cond (.t 28) (zS [zK 4 (.int .i64 0),zK 5 (.int .i64 4)]
 .ret)
 .skip))
 (.seq (.dreg (zQ (zM 31 7) (zQ (zM 32 0) (zQ (zU 33 32) (zQ (zF 34 0 33) (zQ (zL 35 34) (.loud (zC 29 (.f 47) []) [zL 35 34] (.loud (zC 30 (.f 48) []) [zL 35 34] (.loud (zC 36 (.f 49) [.t 35]) [] (zQ (zO 37 (.build [(.pointer none),(.pointer none),(.int .i64 0),(.int .u64 0),(.int .u64 0),(.int .u8 0),(.int .i64 0),(.int .u64 0),(.int .i64 0),(.int .i64 0),(.int .u64 0),(.int .u64 0),(.int .i64 0),(.bool false)] [(0,1,(.t 29)),(1,1,(.t 30)),(2,1,(.t 31)),(3,1,(.t 36))])) (.loud (zO 38 (.box 98 (.t 37))) [] (.loud (zM 8 38) [] .nil))))))))))))
 (zS [zM 39 0,zM 40 1,zM 41 8,zU 42 39,zF 43 2 42,zO 44 (.iaddrA 4 1 (.t 43) (.t 40)),zT 1 44 41]
 (.seq (.dreg (zQ (zM 45 0) (zQ (zM 46 0) (zQ (zU 47 46) (zQ (zF 48 7 47) (zQ (zL 49 48) (zQ (zM 50 7) (zQ (zM 51 8) (zQ (zU 52 51) (zQ (zF 53 3 52) (zQ (zL 54 53) (zQ (zO 55 (.bin .mul (.k (.int .u64 2)) (.t 54))) (zQ (zO 56 (.bin .add (.t 55) (.k (.int .u64 1)))) (zQ (zO 57 (.build [(.int .i64 0),(.int .u64 0),(.int .u8 0)] [(0,1,(.t 50)),(1,1,(.t 56))])) (.loud (zO 58 (.bslice 100 [(.int .i64 0),(.int .u64 0),(.int .u8 0)] 1 [(0,3,(.t 57))])) [zL 49 48] (.loud (zO 59 (.append 100 3 24 (.t 49) (.t 58))) [] (zQ (zU 60 45) (zQ (zF 61 7 60) (.loud (zT 1 61 59) [] .nil)))))))))))))))))))
 (zS [zM 62 0,zM 63 8,zO 64 (.build [(.int .i64 0),(.int .u64 0)] []),zC 65 (.f 50) [.t 62,(.k (.int .u8 1)),.t 63,.t 64]]
 (zS [zM 66 7,zM 4 66,zK 5 (.int .i64 0)]
 .ret))))))))))
def a13:AF:=⟨67,[.t 4,.t 5],.code b13,none⟩
def b14:AC:=
 (zS [zO 5 (.box 32 (.t 2)),zK 6 (.int .i64 0)]
 (.seq (zS [zM 10 0,zM 11 1,zC 12 (.f 46) [.t 10,.t 11],zM 7 12]
 (zS [zM 13 7,zO 14 (.bin .neq (.t 13) (.k (.int .i64 0)))]
 (.cond (.t 14) (zS [zM 15 7,zM 6 15]
 .ret)
 .skip)))
 (zS [zM 16 0,zM 17 1,zU 18 16,zF 19 2 18,zO 20 (.iaddrA 4 1 (.t 19) (.t 17)),zL 21 20,zM 8 21]
 (.seq (.block 0 (zS [zM 23 8,zO 24 (.eq false .ptr (.t 23) (.k (.pointer none))),zM 22 24]
 (.cond (.t 22) (zS [zK 6 (.int .i64 8)]
 .ret)
 (zS [zM 26 8,zC 27 (.f 51) [.t 26],zO 28 (.un .not (.t 27)),zM 25 28]
 (.cond (.t 25) (zS [zK 6 (.int .i64 7)]
 .ret)
 .skip)))))
 (.seq (zS [zM 29 0,zM 30 8,zO 31 (.loadN 3 (.t 5)),zC 32 (.f 52) [.t 29,.t 30,.t 31],zM 9 32]
 (zS [zM 33 9,zO 34 (.bin .neq (.t 33) (.k (.int .i64 0)))]
 (.cond (.t 34) (zS [zM 35 9,zM 6 35]
 .ret)
 .skip)))
 (zS [zM 36 8,zM 37 8,zM 38 8,zM 39 8,zO 40 (.loadN 3 (.t 5)),zO 41 (.build [(.int .u64 0),(.int .u64 0),(.int .i64 0)] []),zU 42 36,zF 43 5 42,zT 3 43 40,zU 44 37,zF 45 8 44,zN (.store 1 (.t 45) (.k (.int .i64 0))),zU 46 38,zF 47 9 46,zN (.store 1 (.t 47) (.k (.int .i64 0))),zU 48 39,zF 49 10 48,zT 3 49 41]
 (zS [zK 6 (.int .i64 0)]
 .ret)))))))
def a14:AF:=⟨50,[.t 6],.code b14,none⟩
def b15:AC:=
 (zS [zO 4 (.alloc 41 [(.bool false),(.int .u64 0),(.bool false),(.int .i64 0),(.bool false),(.int .u8 0),(.int .i64 0)])]
 (.seq (zS [zM 7 0,zM 8 1,zC 9 (.f 46) [.t 7,.t 8],zM 5 9]
 (zS [zM 10 5,zO 11 (.bin .neq (.t 10) (.k (.int .i64 0)))]
 (.cond (.t 11) (zS [zM 12 5,zO 13 (.build [(.bool false),(.int .u64 0),(.bool false),(.int .i64 0),(.bool false),(.int .u8 0),(.int .i64 0)] [(6,1,(.t 12))]),zT 7 4 13]
 .ret)
 .skip)))
 (zS [zM 14 0,zM 15 1,zU 16 14,zF 17 2 16,zO 18 (.iaddrA 4 1 (.t 17) (.t 15)),zL 19 18,zM 6 19]
 (.seq (zS [zM 20 6,zO 21 (.eq false .ptr (.t 20) (.k (.pointer none))),zM 22 21,zV 23 6 22 false,⟨some 24,(.call (.f 51) [.t 23]),(some (22,false))⟩,zO 25 (.pick (.t 22) (.k (.bool true)) (.t 24))]
 (.cond (.t 25) (zS [zO 26 (.build [(.bool false),(.int .u64 0),(.bool false),(.int .i64 0),(.bool false),(.int .u8 0),(.int .i64 0)] [(6,1,(.k (.int .i64 8)))]),zT 7 4 26]
 .ret)
 .skip))
 (zS [zM 27 0,zM 28 6,zU 29 28,zF 30 5 29,zF 31 0 30,zL 32 31,zC 33 (.f 53) [.t 27,.t 32],zM 34 1,zM 35 6,zC 36 (.t 33) [.t 34,.t 35],zT 7 4 36]
 .ret)))))
def a15:AF:=⟨37,[(.c 4 true 7)],.code b15,none⟩
def b16:AC:=
 (zS [zK 2 (.pointer none)]
 (zS [zC 6 (.f 11) [],zC 7 (.f 10) [.t 6,(.k (.int .i64 3))],zM 3 7]
 (.seq (zS [zK 4 (.int .i64 0)]
 (.block 0 (.loop (.seq (zS [zM 8 4,zM 9 0,zE 10 9,zB 11 .lss 8 10,zM 12 11,zV 13 4 12 true,zG 14 (.bin .lss (.t 13) (.k (.int .i64 120))) 12 true,zO 15 (.pick (.t 12) (.t 14) (.k (.bool false))),zM 16 15,zV 17 3 16 true,zG 18 (.eq true .ptr (.t 17) (.k (.pointer none))) 16 true,zO 19 (.pick (.t 16) (.t 18) (.k (.bool false)))]
  (.cond (.t 19) .skip
  (.exit 0)))
  (.seq (.block 1 (zS [zM 22 0,zM 23 4,zI 24 5 22 23,zO 25 (.loadN 5 (.t 24)),zO 5 (.alloc 34 [(.int .i64 0),(.int .i64 0),(.int .u8 0),(.int .i64 0),(.int .u64 0)]),zT 5 5 25]
  (zS [zF 26 0 5,zL 27 26]
  (.block 2 (zS [zO 29 (.bin .eql (.t 27) (.k (.int .i64 0))),zM 28 29]
  (.cond (.t 28) (.reg [zM 30 3,zF 31 1 5,zL 32 31,zC 33 (.f 13) [.t 30,.t 32]])
  (zS [zO 35 (.bin .eql (.t 27) (.k (.int .i64 1))),zM 34 35]
  (.cond (.t 34) (.reg [zM 36 3,zF 37 1 5,zL 38 37,zF 39 2 5,zO 40 (.loadN 3 (.t 39)),zC 41 (.f 14) [.t 36,.t 38,.t 40]])
  (zS [zO 43 (.bin .eql (.t 27) (.k (.int .i64 2))),zM 42 43]
  (.cond (.t 42) (.reg [zM 44 3,zF 45 1 5,zL 46 45,zC 47 (.f 15) [.t 44,.t 46]])
  (zS [zO 49 (.bin .eql (.t 27) (.k (.int .i64 3))),zM 48 49]
  (.cond (.t 48) (.reg [zM 50 3,zF 51 1 5,zL 52 51,zC 53 (.f 22) [.t 50,.t 52]])
  .skip))))))))))))
  (.reg [zM 20 4,zO 21 (.bin .add (.t 20) (.k (.int .i64 1))),zM 4 21]))))))
 (zS [zM 54 3,zM 2 54]
 .ret))))
def a16:AF:=⟨55,[.t 2],.code b16,none⟩
def b21:AC:=
 (zS [zK 2 (.slice none 0 0)]
 (.seq (zS [zM 3 0,zO 4 (.eq false .ptr (.t 3) (.k (.pointer none)))]
 (.cond (.t 4) (zS [zK 2 (.slice none 0 0)]
 .ret)
 .skip))
 (zS [zM 5 0,zU 6 5,zF 7 1 6,zL 8 7,zC 9 (.f 45) [.t 8],zM 2 9]
 .ret)))
def a21:AF:=⟨10,[.t 2],.code b21,none⟩
def b22:AC:=
 (zS [zK 4 (.int .i64 0)]
 (.seq (zS [zM 7 0,zM 8 1,zC 9 (.f 46) [.t 7,.t 8],zM 5 9]
 (zS [zM 10 5,zO 11 (.bin .neq (.t 10) (.k (.int .i64 0)))]
 (.cond (.t 11) (zS [zM 12 5,zM 4 12]
 .ret)
 .skip)))
 (.seq (zS [zM 13 0,zM 14 1,zU 15 13,zF 16 2 15,zO 17 (.iaddrA 4 1 (.t 16) (.t 14)),zL 18 17,zM 6 18]
 (zS [zM 19 6,zO 20 (.eq false .ptr (.t 19) (.k (.pointer none))),zM 21 20,zV 22 6 21 false,zG 23 (.nilchk (.t 22)) 21 false,zG 24 (.faddr 13 (.t 23)) 21 false,zG 25 (.load (.t 24)) 21 false,zO 26 (.pick (.t 21) (.k (.bool true)) (.t 25))]
 (.cond (.t 26) (zS [zK 4 (.int .i64 8)]
 .ret)
 .skip)))
 (zS [zM 27 0,zM 28 1,zC 29 (.f 56) [.t 27,.t 28,(.k (.int .u8 3))]]
 (zS [zK 4 (.int .i64 0)]
 .ret)))))
def a22:AF:=⟨30,[.t 4],.code b22,none⟩
def b24:AC:=
 (zS [zK 2 (.slice none 0 0)]
 (.seq (zS [zM 6 0,zO 7 (.eq false .ptr (.t 6) (.k (.pointer none)))]
 (.cond (.t 7) (zS [zK 2 (.slice none 0 0)]
 .ret)
 .skip))
 (zS [zK 3 (.slice none 0 0)]
 (.seq (zS [zM 8 0,zU 9 8,zF 10 2 9,zO 11 (.loadN 4 (.t 10)),zK 12 (.int .i64 0)]
 (.block 0 (.loop (zS [zO 13 (.bin .lss (.t 12) (.k (.int .i64 4)))]
  (.seq (.cond (.t 13) .skip
  (.exit 0))
  (.seq (.block 1 (zS [zO 14 (.indexA 4 1 false (.t 11) (.t 12)),zM 5 14]
  (zS [zM 15 5,zO 16 (.eq true .ptr (.t 15) (.k (.pointer none))),zM 17 16,zV 18 5 17 true,zG 19 (.nilchk (.t 18)) 17 true,zG 20 (.faddr 13 (.t 19)) 17 true,zG 21 (.load (.t 20)) 17 true,zO 22 (.pick (.t 17) (.t 21) (.k (.bool false)))]
  (.cond (.t 22) (.reg [zM 23 3,zM 24 5,zU 25 24,zF 26 2 25,zL 27 26,zO 28 (.bslice 3 [(.int .i64 0)] 1 [(0,1,(.t 27))]),zO 29 (.append 3 1 8 (.t 23) (.t 28)),zM 3 29])
  .skip))))
  (.reg [zO 30 (.bin .add (.t 12) (.k (.int .i64 1))),zM 12 30])))))))
 (zS [zM 31 3,zC 32 (.f 57) [.t 31]]
 (zS [zM 33 3,zM 2 33]
 .ret))))))
def a24:AF:=⟨34,[.t 2],.code b24,none⟩
def b25:AC:=
 (zS [zK 4 (.bool false)]
 (zS [zM 5 0,zO 6 (.eq true .ptr (.t 5) (.k (.pointer none))),zM 7 6,zV 8 0 7 true,zG 9 (.nilchk (.t 8)) 7 true,zG 10 (.faddr 0 (.t 9)) 7 true,zG 11 (.load (.t 10)) 7 true,zV 12 1 7 true,⟨some 13,(.call (.f 58) [.t 11,.t 12]),(some (7,true))⟩,zG 14 (.lenS (.t 13)) 7 true,zG 15 (.bin .gtr (.t 14) (.k (.int .i64 0))) 7 true,zO 16 (.pick (.t 7) (.t 15) (.k (.bool false))),zM 4 16]
 .ret))
def a25:AF:=⟨17,[.t 4],.code b25,none⟩
def b26:AC:=
 (zS [zK 4 (.bool false)]
 (.seq (zS [zM 6 0,zE 7 6,zM 8 1,zE 9 8,zB 10 .neq 7 9]
 (.cond (.t 10) (zS [zK 4 (.bool false)]
 .ret)
 .skip))
 (.seq (zS [zK 5 (.int .i64 0)]
 (.block 0 (.loop (.seq (zS [zM 11 5,zM 12 0,zE 13 12,zB 14 .lss 11 13]
  (.cond (.t 14) .skip
  (.exit 0)))
  (.seq (.block 1 (.seq (.dreg (zQ (zM 17 0) (zQ (zM 18 5) (zQ (zI 19 1 17 18) (zQ (zL 20 19) (zQ (zM 21 1) (zQ (zM 22 5) (zQ (zI 23 1 21 22) (zQ (zL 24 23) (zQ (zB 25 .neq 20 24) .nil))))))))))
  (.cond (.t 25) (zS [zK 4 (.bool false)]
  .ret)
  .skip)))
  (.reg [zM 15 5,zO 16 (.bin .add (.t 15) (.k (.int .i64 1))),zM 5 16]))))))
 (zS [zK 4 (.bool true)]
 .ret))))
def a26:AF:=⟨26,[.t 4],.code b26,none⟩
def b28:AC:=
 (zS [zK 8 (.int .i64 0),zK 9 (.int .i64 0)]
 (.seq (zS [zM 17 0,zM 18 1,zC 19 (.f 59) [.t 17,.t 18,(.k (.slice none 0 0))],zM 10 19]
 (zS [zM 20 10,zO 21 (.bin .neq (.t 20) (.k (.int .i64 0)))]
 (.cond (.t 21) (zS [zM 22 10,zK 8 (.int .i64 0),zM 9 22]
 .ret)
 .skip)))
 (zS [zM 23 0,zC 24 (.f 60) [.t 23],zM 11 24]
 (.seq (zS [zM 25 2,zE 26 25,zM 27 11,zE 28 27,zB 29 .neq 26 28,zM 30 29,zV 31 2 30 false,⟨some 32,(.call (.f 61) [.t 31]),(some (30,false))⟩,zG 33 (.un .not (.t 32)) 30 false,zO 34 (.pick (.t 30) (.k (.bool true)) (.t 33))]
 (.cond (.t 34) (zS [zK 8 (.int .i64 0),zK 9 (.int .i64 2)]
 .ret)
 .skip))
 (.seq (zS [zK 12 (.int .i64 0)]
 (.block 0 (.loop (.seq (zS [zM 35 12,zM 36 2,zE 37 36,zB 38 .lss 35 37]
  (.cond (.t 38) .skip
  (.exit 0)))
  (.seq (.block 1 (zS [zM 41 11,zM 42 2,zM 43 12,zI 44 1 42 43,zL 45 44,zC 46 (.f 62) [.t 41,.t 45],zO 47 (.un .not (.t 46))]
  (.cond (.t 47) (zS [zK 8 (.int .i64 0),zK 9 (.int .i64 2)]
  .ret)
  .skip)))
  (.reg [zM 39 12,zO 40 (.bin .add (.t 39) (.k (.int .i64 1))),zM 12 40]))))))
 (.seq (zS [zM 48 0,zM 49 1,zM 50 3,zC 51 (.f 59) [.t 48,.t 49,.t 50],zM 13 51]
 (zS [zM 52 13,zO 53 (.bin .neq (.t 52) (.k (.int .i64 0)))]
 (.cond (.t 53) (zS [zM 54 13,zK 8 (.int .i64 0),zM 9 54]
 .ret)
 .skip)))
 (zS [zM 56 0,zM 57 1,zM 58 2,zM 59 3,zC 60 (.f 63) [.t 56,.t 57,.t 58,.t 59],zM 55 60,zO 61 (.extract (.t 55) 0),zO 62 (.extract (.t 55) 1),zO 63 (.extract (.t 55) 2),zM 14 61,zM 15 62,zM 16 63]
 (zS [zM 64 14,zM 65 15,zM 8 64,zM 9 65]
 .ret))))))))
def a28:AF:=⟨66,[.t 8,.t 9],.code b28,none⟩
def b29:AC:=
 (zS [zK 2 (.slice none 0 0)]
 (.seq (zS [zM 3 0,zO 4 (.eq false .ptr (.t 3) (.k (.pointer none)))]
 (.cond (.t 4) (zS [zK 2 (.slice none 0 0)]
 .ret)
 .skip))
 (zS [zM 5 0,zU 6 5,zF 7 6 6,zL 8 7,zC 9 (.f 64) [.t 8],zM 2 9]
 .ret)))
def a29:AF:=⟨10,[.t 2],.code b29,none⟩
def b30:AC:=
 (zS [zK 2 (.slice none 0 0)]
 (.seq (zS [zM 6 0,zO 7 (.eq false .ptr (.t 6) (.k (.pointer none)))]
 (.cond (.t 7) (zS [zK 2 (.slice none 0 0)]
 .ret)
 .skip))
 (zS [zK 3 (.slice none 0 0)]
 (.seq (zS [zM 8 0,zU 9 8,zF 10 7 9,zL 11 10,zC 12 (.f 66) [.t 11],zC 13 (.f 65) [.t 12,.f 67],zE 14 13,zK 15 (.int .i64 0)]
 (.block 0 (.loop (zS [zB 16 .lss 15 14]
  (.seq (.cond (.t 16) .skip
  (.exit 0))
  (.seq (.block 1 (zS [zI 17 3 13 15,zO 18 (.loadN 3 (.t 17)),zO 5 (.alloc 100 [(.int .i64 0),(.int .u64 0),(.int .u8 0)]),zT 3 5 18]
  (.reg [zM 19 3,zF 20 0 5,zL 21 20,zO 22 (.bslice 3 [(.int .i64 0)] 1 [(0,1,(.t 21))]),zO 23 (.append 3 1 8 (.t 19) (.t 22)),zM 3 23])))
  (.reg [zO 24 (.bin .add (.t 15) (.k (.int .i64 1))),zM 15 24])))))))
 (zS [zM 25 3,zM 2 25]
 .ret)))))
def a30:AF:=⟨26,[.t 2],.code b30,none⟩
def b31:AC:=
 (zS [zK 8 (.slice none 0 0),zK 9 (.int .i64 0)]
 (.seq (zS [zM 16 0,zM 17 1,zM 18 2,zM 19 3,zC 20 (.f 28) [.t 16,.t 17,.t 18,.t 19],zM 15 20,zO 21 (.extract (.t 15) 0),zO 22 (.extract (.t 15) 1),zM 10 21,zM 11 22]
 (zS [zM 23 11,zO 24 (.bin .neq (.t 23) (.k (.int .i64 0)))]
 (.cond (.t 24) (zS [zM 25 11,zK 8 (.slice none 0 0),zM 9 25]
 .ret)
 .skip)))
 (zS [zM 27 0,zM 28 1,zM 29 2,zM 30 3,zC 31 (.f 63) [.t 27,.t 28,.t 29,.t 30],zM 26 31,zO 32 (.extract (.t 26) 0),zO 33 (.extract (.t 26) 1),zO 34 (.extract (.t 26) 2),zM 12 32,zM 13 33,zM 14 34]
 (zS [zM 35 14,zM 8 35,zK 9 (.int .i64 0)]
 .ret))))
def a31:AF:=⟨36,[.t 8,.t 9],.code b31,none⟩
def b41:AC:=
 (zS [zK 2 (.pointer none)]
 (.seq (zS [zM 3 0,zO 4 (.bin .lss (.t 3) (.k (.int .i64 1))),zM 5 4,zV 6 0 5 false,zG 7 (.bin .gtr (.t 6) (.k (.int .i64 8))) 5 false,zO 8 (.pick (.t 5) (.k (.bool true)) (.t 7))]
 (.cond (.t 8) (zS [zK 2 (.pointer none)]
 .ret)
 .skip))
 (zS [zM 9 0,zO 10 (.mkslice 29 [(.int .u64 0)] 8 (.t 9) (.t 9)),zO 11 (.build [(.int .u64 0),(.slice none 0 0)] [(1,1,(.t 10))]),zO 12 (.box 159 (.t 11)),zM 2 12]
 .ret)))
def a41:AF:=⟨13,[.t 2],.code b41,none⟩
def b42:AC:=
 (zS [zK 2 (.bool false)]
 (zS [zM 3 0,zC 4 (.f 43) [.t 3],zO 5 (.un .not (.t 4)),zM 2 5]
 .ret))
def a42:AF:=⟨6,[.t 2],.code b42,none⟩
def b43:AC:=
 (zS [zK 2 (.bool false)]
 (zS [zM 3 0,zO 4 (.bin .andNot (.t 3) (.k (.int .u64 9223372036854775808))),zO 5 (.bin .leq (.t 4) (.k (.int .u64 9218868437227405312))),zM 6 5,zV 7 0 6 false,zG 8 (.bin .eql (.t 7) (.k (.int .u64 9221120237041090560))) 6 false,zO 9 (.pick (.t 6) (.k (.bool true)) (.t 8)),zM 2 9]
 .ret))
def a43:AF:=⟨10,[.t 2],.code b43,none⟩
def b44:AC:=
 (zS [zK 4 (.bool false)]
 (zS [zM 5 0,zM 6 1,zC 7 (.f 105) [.t 5,.t 6],zO 8 (.bin .geq (.t 7) (.k (.int .i64 0))),zM 4 8]
 .ret))
def a44:AF:=⟨9,[.t 4],.code b44,none⟩
def b45:AC:=
 (zS [zK 2 (.slice none 0 0)]
 (.seq (zS [zM 3 0,⟨some 4,(.isnil false (.t 3)),none⟩]
 (.cond (.t 4) (zS [zK 2 (.slice none 0 0)]
 .ret)
 .skip))
 (zS [zO 5 (.bslice 30 [] 0 []),zM 6 0,zO 7 (.append 30 1 8 (.t 5) (.t 6)),zM 2 7]
 .ret)))
def a45:AF:=⟨8,[.t 2],.code b45,none⟩
def b46:AC:=
 (zS [zK 4 (.int .i64 0)]
 (.seq (.block 0 (zS [zM 6 0,zO 7 (.eq false .ptr (.t 6) (.k (.pointer none))),zM 5 7]
 (.cond (.t 5) (zS [zK 4 (.int .i64 1)]
 .ret)
 (zS [zM 9 1,zO 10 (.bin .lss (.t 9) (.k (.int .i64 0))),zM 11 10,zV 12 1 11 false,zG 13 (.bin .geq (.t 12) (.k (.int .i64 4))) 11 false,zO 14 (.pick (.t 11) (.k (.bool true)) (.t 13)),zM 8 14]
 (.cond (.t 8) (zS [zK 4 (.int .i64 2)]
 .ret)
 .skip)))))
 (zS [zK 4 (.int .i64 0)]
 .ret)))
def a46:AF:=⟨15,[.t 4],.code b46,none⟩
def b47:AC:=
 (zS [zK 0 (.pointer none)]
 (zS [zO 1 (.mkmap),zO 2 (.build [(.slice none 0 0),(.map none)] [(1,1,(.t 1))]),zO 3 (.box 163 (.t 2)),zM 0 3]
 .ret))
def a47:AF:=⟨4,[.t 0],.code b47,none⟩
def b48:AC:=
 (zS [zK 0 (.pointer none)]
 (zS [zK 1 (.pointer none)]
 (zS [zM 2 1,zC 3 (.f 106) [.t 2,(.k (.slice none 0 0))],zO 4 (.build [(.pointer none),(.int .i64 0)] [(0,1,(.t 3))]),zO 5 (.box 168 (.t 4)),zM 0 5]
 .ret)))
def a48:AF:=⟨6,[.t 0],.code b48,none⟩
def b49:AC:=
 (zS [zK 2 (.int .u64 0)]
 (.seq (zS [zM 3 0,zO 4 (.eq false .ptr (.t 3) (.k (.pointer none)))]
 (.cond (.t 4) (zS [zK 2 (.int .u64 0)]
 .ret)
 .skip))
 (zS [zM 5 0,zU 6 5,zF 7 0 6,zF 8 0 7,zL 9 8,zM 2 9]
 .ret)))
def a49:AF:=⟨10,[.t 2],.code b49,none⟩
def b50:AC:=
 (zS [zO 7 (.box 104 (.t 3))]
 (.dreg (zQ (zM 8 0) (zQ (zM 9 0) (zQ (zU 10 9) (zQ (zF 11 6 10) (zQ (zL 12 11) (zQ (zM 13 1) (zQ (zM 14 2) (zQ (zU 15 14) (zQ (zF 16 2 15) (zQ (zL 17 16) (zQ (zF 18 0 7) (zQ (zL 19 18) (zQ (zF 20 1 7) (zQ (zL 21 20) (zQ (zO 22 (.build [(.int .u8 0),(.int .i64 0),(.int .i64 0),(.int .u64 0)] [(0,1,(.t 13)),(1,1,(.t 17)),(2,1,(.t 19)),(3,1,(.t 21))])) (.loud (zO 23 (.bslice 121 [(.int .u8 0),(.int .i64 0),(.int .i64 0),(.int .u64 0)] 1 [(0,4,(.t 22))])) [zL 12 11] (.loud (zO 24 (.append 121 4 32 (.t 12) (.t 23))) [] (zQ (zU 25 8) (zQ (zF 26 6 25) (.loud (zT 1 26 24) [] .nil))))))))))))))))))))))
def a50:AF:=⟨27,[],.code b50,none⟩
def b51:AC:=
 (zS [zK 2 (.bool false)]
 (zS [zM 3 0,zU 4 3,zF 5 5 4,zF 6 0 5,zL 7 6,zO 8 (.bin .eql (.t 7) (.k (.int .u8 0))),zM 2 8]
 .ret))
def a51:AF:=⟨9,[.t 2],.code b51,none⟩
def b52:AC:=
 (zS [zO 5 (.box 32 (.t 2)),zK 6 (.int .i64 0)]
 (zS [zM 8 1,zU 9 8,zF 10 1 9,zL 11 10,zC 12 (.f 107) [.t 11],zM 7 12]
 (.seq (zS [zF 13 0 5,zL 14 13]
 (.block 0 (.seq (zS [zO 16 (.bin .eql (.t 14) (.k (.int .u8 1))),zM 15 16]
 (.cond (.t 15) .skip
 (.reg [zO 17 (.bin .eql (.t 14) (.k (.int .u8 2))),zM 15 17])))
 (.cond (.t 15) (.seq (.seq (.dreg (zQ (zF 18 1 5) (zQ (zL 19 18) (zQ (zO 20 (.bin .lss (.t 19) (.k (.int .i64 0)))) (zQ (zM 21 20) (zQ (zG 22 (.faddr 1 (.t 5)) 21 false) (zQ (zG 23 (.load (.t 22)) 21 false) (zQ (zV 24 0 21 false) (zQ (zG 25 (.nilchk (.t 24)) 21 false) (zQ (zG 26 (.faddr 1 (.t 25)) 21 false) (zQ (zG 27 (.load (.t 26)) 21 false) (zQ (zG 28 (.lenS (.t 27)) 21 false) (zQ (zG 29 (.bin .geq (.t 23) (.t 28)) 21 false) (zQ (zO 30 (.pick (.t 21) (.k (.bool true)) (.t 29))) .nil))))))))))))))
 (.cond (.t 30) (zS [zK 6 (.int .i64 2)]
 .ret)
 .skip))
 (zS [zF 31 0 5,zL 32 31,zO 33 (.bin .eql (.t 32) (.k (.int .u8 2))),zM 34 33,zG 35 (.faddr 2 (.t 5)) 34 true,zG 36 (.load (.t 35)) 34 true,⟨some 37,(.call (.f 43) [.t 36]),(some (34,true))⟩,zG 38 (.un .not (.t 37)) 34 true,zO 39 (.pick (.t 34) (.t 38) (.k (.bool false)))]
 (.cond (.t 39) (zS [zK 6 (.int .i64 3)]
 .ret)
 .skip)))
 (zS [zO 41 (.bin .eql (.t 14) (.k (.int .u8 3))),zM 40 41]
 (.cond (.t 40) (zS [zM 42 7,zO 43 (.bin .geq (.t 42) (.k (.int .i64 4)))]
 (.cond (.t 43) (zS [zK 6 (.int .i64 4)]
 .ret)
 .skip))
 (.seq (zS [zO 45 (.bin .eql (.t 14) (.k (.int .u8 4))),zM 44 45]
 (.cond (.t 44) .skip
 (.reg [zO 46 (.bin .eql (.t 14) (.k (.int .u8 5))),zM 44 46])))
 (.cond (.t 44) (zS [zM 47 7,zO 48 (.bin .eql (.t 47) (.k (.int .i64 0)))]
 (.cond (.t 48) (zS [zK 6 (.int .i64 8)]
 .ret)
 .skip))
 (zS [zO 50 (.bin .eql (.t 14) (.k (.int .u8 6))),zM 49 50]
 (.cond (.t 49) (zS [zM 51 7,zO 52 (.bin .gtr (.t 51) (.k (.int .i64 0)))]
 (.cond (.t 52) (zS [zK 6 (.int .i64 8)]
 .ret)
 .skip))
 (zS [zO 54 (.bin .eql (.t 14) (.k (.int .u8 7))),zM 53 54]
 (.cond (.t 53) .skip
 (zS [zK 6 (.int .i64 2)]
 .ret)))))))))))))
 (zS [zK 6 (.int .i64 0)]
 .ret))))
def a52:AF:=⟨55,[.t 6],.code b52,none⟩
def b53:AC:=
 (zS [zK 4 .nilFunc]
 (.seq (zS [zM 5 1]
 (.block 0 (zS [zO 7 (.bin .eql (.t 5) (.k (.int .u8 1))),zM 6 7]
 (.cond (.t 6) (zS [zM 8 0,zO 9 (.mkfunc 108 [.t 8] []),zM 4 9]
 .ret)
 (zS [zO 11 (.bin .eql (.t 5) (.k (.int .u8 6))),zM 10 11]
 (.cond (.t 10) (zS [zM 12 0,zO 13 (.mkfunc 109 [.t 12] []),zM 4 13]
 .ret)
 (zS [zO 15 (.bin .eql (.t 5) (.k (.int .u8 7))),zM 14 15]
 (.cond (.t 14) (zS [zM 16 0,zO 17 (.mkfunc 110 [.t 16] []),zM 4 17]
 .ret)
 .skip))))))))
 (zS [zM 18 0,zO 19 (.mkfunc 111 [.t 18] []),zM 4 19]
 .ret)))
def a53:AF:=⟨20,[.t 4],.code b53,none⟩
def b55:AC:=
 (zS [zK 2 (.slice none 0 0)]
 (zS [zK 3 (.slice none 0 0)]
 (.seq (zS [zK 7 (.int .i64 0)]
 (.block 0 (.loop (zS [zO 8 (.bin .lss (.t 7) (.k (.int .i64 12)))]
  (.seq (.cond (.t 8) .skip
  (.exit 0))
  (.seq (.block 1 (zS [zM 9 7,zM 4 9]
  (zS [zM 11 0,zM 12 4,zC 13 (.f 112) [.t 11,.t 12],zM 10 13,zO 14 (.extract (.t 10) 0),zO 15 (.extract (.t 10) 1),zM 5 14,zM 6 15]
  (zS [zM 16 6]
  (.cond (.t 16) (.reg [zM 17 3,zM 18 4,zM 19 5,zO 20 (.build [(.int .i64 0),(.int .u64 0)] [(0,1,(.t 18)),(1,1,(.t 19))]),zO 21 (.bslice 104 [(.int .i64 0),(.int .u64 0)] 1 [(0,2,(.t 20))]),zO 22 (.append 104 2 16 (.t 17) (.t 21)),zM 3 22])
  .skip)))))
  (.reg [zO 23 (.bin .add (.t 7) (.k (.int .i64 1))),zM 7 23])))))))
 (zS [zM 24 3,zM 2 24]
 .ret))))
def a55:AF:=⟨25,[.t 2],.code b55,none⟩
def b56:AC:=
 (zS [zO 6 (.alloc 41 [(.bool false),(.int .u64 0),(.bool false),(.int .i64 0),(.bool false),(.int .u8 0),(.int .i64 0)])]
 (zS [zM 8 0,zM 9 1,zU 10 8,zF 11 2 10,zO 12 (.iaddrA 4 1 (.t 11) (.t 9)),zL 13 12,zM 7 13]
 (zS [zM 14 0,zU 15 14,zF 16 0 15,zL 17 16,zM 18 1,zC 19 (.f 113) [.t 17,.t 18]]
 (.seq (.dreg (zQ (zM 20 0) (zQ (zU 21 20) (zQ (zF 22 7 21) (zQ (zL 23 22) (zQ (zM 24 7) (zQ (zU 25 24) (zQ (zF 26 2 25) (zQ (zL 27 26) (zQ (zM 28 2) (zQ (zI 29 3 23 27) (zQ (zF 30 2 29) (.loud (zT 1 30 28) [] .nil)))))))))))))
 (zS [zM 31 0,zM 32 1,zU 33 31,zF 34 2 33,zO 35 (.iaddrA 4 1 (.t 34) (.t 32)),zN (.store 1 (.t 35) (.k (.pointer none)))]
 (zS [zM 36 0,zM 37 7,zO 38 (.build [(.int .i64 0),(.int .u64 0)] []),zC 39 (.f 50) [.t 36,(.k (.int .u8 9)),.t 37,.t 38]]
 (zS [zM 40 2,zO 41 (.build [(.bool false),(.int .u64 0),(.bool false),(.int .i64 0),(.bool false),(.int .u8 0),(.int .i64 0)] [(0,1,(.k (.bool true))),(4,1,(.k (.bool true))),(5,1,(.t 40))]),zT 7 6 41]
 .ret)))))))
def a56:AF:=⟨42,[(.c 6 true 7)],.code b56,none⟩
def b57:AC:=
 (zS [zM 3 0,zE 4 3,zM 2 4]
 (.reg [zM 5 0,zM 6 2,zM 7 2,zO 8 (.conv (.int .u64) (.t 7)),zC 9 (.f 115) [.t 8],zC 10 (.f 114) [.t 5,(.k (.int .i64 0)),.t 6,.t 9]]))
def a57:AF:=⟨11,[],.code b57,none⟩
def b58:AC:=
 (zS [zK 4 (.slice none 0 0)]
 (zS [zO 5 (.alloc 55 [(.slice none 0 0)])]
 (.seq (zS [zM 7 0,zM 8 1,zC 9 (.f 116) [.t 7,.t 8]]
 (.block 0 (.rfunc (.t 9) [10] (.reg [zM 6 10])
  (.block 1 (.reg [zL 11 5,zM 12 6,zO 13 (.bslice 3 [(.int .i64 0)] 1 [(0,1,(.t 12))]),zO 14 (.append 3 1 8 (.t 11) (.t 13)),zT 1 5 14])))))
 (zS [zL 15 5,zM 4 15]
 .ret))))
def a58:AF:=⟨16,[.t 4],.code b58,none⟩
def b59:AC:=
 (zS [zK 6 (.int .i64 0)]
 (.seq (zS [zM 9 0,zC 10 (.f 117) [.t 9],zO 11 (.un .not (.t 10)),zM 12 11,zV 13 1 12 false,zG 14 (.lenS (.t 13)) 12 false,zG 15 (.bin .gtr (.t 14) (.k (.int .i64 12))) 12 false,zO 16 (.pick (.t 12) (.k (.bool true)) (.t 15))]
 (.cond (.t 16) (zS [zK 6 (.int .i64 3)]
 .ret)
 .skip))
 (.seq (zS [zK 7 (.int .i64 0)]
 (.block 0 (.loop (.seq (zS [zM 17 7,zM 18 1,zE 19 18,zB 20 .lss 17 19]
  (.cond (.t 20) .skip
  (.exit 0)))
  (.seq (.block 1 (zS [zM 23 1,zM 24 7,zI 25 1 23 24,zL 26 25,zC 27 (.f 97) [.t 26],zO 28 (.un .not (.t 27))]
  (.cond (.t 28) (zS [zK 6 (.int .i64 3)]
  .ret)
  .skip)))
  (.reg [zM 21 7,zO 22 (.bin .add (.t 21) (.k (.int .i64 1))),zM 7 22]))))))
 (.seq (zS [zK 8 (.int .i64 0)]
 (.block 2 (.loop (.seq (zS [zM 29 8,zM 30 2,zE 31 30,zB 32 .lss 29 31]
  (.cond (.t 32) .skip
  (.exit 2)))
  (.seq (.block 3 (.seq (.dreg (zQ (zM 35 0) (zQ (zM 36 2) (zQ (zM 37 8) (zQ (zI 38 1 36 37) (zQ (zL 39 38) (.loud (zC 40 (.f 118) [.t 35,.t 39]) [] (zQ (zO 41 (.bin .neq (.t 40) (.k (.int .u8 2)))) (zQ (zM 42 41) (zQ (zV 43 2 42 false) (zQ (zV 44 8 42 false) (zQ (zG 45 (.slice 1 (.t 43) none (some (.t 44)) none) 42 false) (zQ (zV 46 2 42 false) (zQ (zV 47 8 42 false) (zQ (zG 48 (.iaddrS 1 (.t 46) (.t 47)) 42 false) (zQ (zG 49 (.load (.t 48)) 42 false) (.loud ⟨some 50,(.call (.f 62) [.t 45,.t 49]),(some (42,false))⟩ [] (zQ (zO 51 (.pick (.t 42) (.k (.bool true)) (.t 50))) .nil))))))))))))))))))
  (.cond (.t 51) (zS [zK 6 (.int .i64 2)]
  .ret)
  .skip)))
  (.reg [zM 33 8,zO 34 (.bin .add (.t 33) (.k (.int .i64 1))),zM 8 34]))))))
 (zS [zK 6 (.int .i64 0)]
 .ret)))))
def a59:AF:=⟨52,[.t 6],.code b59,none⟩
def b60:AC:=
 (zS [zK 2 (.slice none 0 0)]
 (zS [zK 3 (.slice none 0 0)]
 (.seq (zS [zK 4 (.int .i64 0)]
 (.block 0 (.loop (.seq (zS [zM 5 4,zM 6 0,zE 7 6,zB 8 .lss 5 7]
  (.cond (.t 8) .skip
  (.exit 0)))
  (.seq (.block 1 (zS [zM 11 0,zM 12 4,zI 13 4 11 12,zF 14 0 13,zL 15 14,zO 16 (.bin .eql (.t 15) (.k (.int .u8 1))),zM 17 16,zV 18 0 17 true,zV 19 4 17 true,zV 20 0 17 true,zV 21 4 17 true,zG 22 (.iaddrS 4 (.t 20) (.t 21)) 17 true,zG 23 (.faddr 1 (.t 22)) 17 true,zG 24 (.load (.t 23)) 17 true,⟨some 25,(.call (.f 119) [.t 18,.t 19,.t 24,(.k (.int .u8 1))]),(some (17,true))⟩,zG 26 (.un .not (.t 25)) 17 true,zO 27 (.pick (.t 17) (.t 26) (.k (.bool false)))]
  (.cond (.t 27) (.reg [zM 28 3,zM 29 0,zM 30 4,zI 31 4 29 30,zF 32 1 31,zL 33 32,zO 34 (.bslice 3 [(.int .i64 0)] 1 [(0,1,(.t 33))]),zO 35 (.append 3 1 8 (.t 28) (.t 34)),zM 3 35])
  .skip)))
  (.reg [zM 9 4,zO 10 (.bin .add (.t 9) (.k (.int .i64 1))),zM 4 10]))))))
 (zS [zM 36 3,zM 2 36]
 .ret))))
def a60:AF:=⟨37,[.t 2],.code b60,none⟩
def b61:AC:=
 (zS [zK 2 (.bool false)]
 (.seq (zS [zK 3 (.int .i64 0)]
 (.block 0 (.loop (.seq (zS [zM 4 3,zM 5 0,zE 6 5,zB 7 .lss 4 6]
  (.cond (.t 7) .skip
  (.exit 0)))
  (.seq (.block 1 (.seq (.dreg (zQ (zM 10 0) (zQ (zM 11 3) (zQ (zO 12 (.slice 1 (.t 10) none (some (.t 11)) none)) (zQ (zM 13 0) (zQ (zM 14 3) (zQ (zI 15 1 13 14) (zQ (zL 16 15) (.loud (zC 17 (.f 62) [.t 12,.t 16]) [] .nil)))))))))
  (.cond (.t 17) (zS [zK 2 (.bool false)]
  .ret)
  .skip)))
  (.reg [zM 8 3,zO 9 (.bin .add (.t 8) (.k (.int .i64 1))),zM 3 9]))))))
 (zS [zK 2 (.bool true)]
 .ret)))
def a61:AF:=⟨18,[.t 2],.code b61,none⟩
def b62:AC:=
 (zS [zK 4 (.bool false)]
 (.seq (zS [zK 5 (.int .i64 0)]
 (.block 0 (.loop (.seq (zS [zM 6 5,zM 7 0,zE 8 7,zB 9 .lss 6 8]
  (.cond (.t 9) .skip
  (.exit 0)))
  (.seq (.block 1 (zS [zM 12 0,zM 13 5,zI 14 1 12 13,zL 15 14,zM 16 1,zB 17 .eql 15 16]
  (.cond (.t 17) (zS [zK 4 (.bool true)]
  .ret)
  .skip)))
  (.reg [zM 10 5,zO 11 (.bin .add (.t 10) (.k (.int .i64 1))),zM 5 11]))))))
 (zS [zK 4 (.bool false)]
 .ret)))
def a62:AF:=⟨18,[.t 4],.code b62,none⟩
def b63:AC:=
 (zS [zK 8 (.int .i64 0),zK 9 (.int .i64 0),zK 10 (.slice none 0 0)]
 (zS [zO 15 (.bslice 30 [] 0 []),zM 16 1,zO 17 (.append 30 1 8 (.t 15) (.t 16)),zM 11 17]
 (.seq (zS [zK 12 (.int .i64 0)]
 (.block 0 (.loop (.seq (zS [zM 18 12,zM 19 2,zE 20 19,zB 21 .lss 18 20]
  (.cond (.t 21) .skip
  (.exit 0)))
  (.seq (.block 1 (.seq (zS [zM 24 12,zO 25 (.bin .add (.t 24) (.k (.int .i64 1))),zM 13 25]
  (.block 2 (.loop (.seq (zS [zM 26 13,zM 27 2,zE 28 27,zB 29 .lss 26 28]
   (.cond (.t 29) .skip
   (.exit 2)))
   (.seq (.block 3 (.seq (.dreg (zQ (zM 32 0) (zQ (zM 33 2) (zQ (zM 34 13) (zQ (zI 35 1 33 34) (zQ (zL 36 35) (zQ (zM 37 2) (zQ (zM 38 12) (zQ (zI 39 1 37 38) (zQ (zL 40 39) (.loud (zC 41 (.f 120) [.t 32,.t 36,.t 40]) [] .nil)))))))))))
   (.cond (.t 41) (zS [zM 42 12,zM 8 42,zK 9 (.int .i64 8),zK 10 (.slice none 0 0)]
   .ret)
   .skip)))
   (.reg [zM 30 13,zO 31 (.bin .add (.t 30) (.k (.int .i64 1))),zM 13 31]))))))
  (zS [zM 43 0,zM 44 2,zM 45 12,zI 46 1 44 45,zL 47 46,zC 48 (.f 118) [.t 43,.t 47],zO 49 (.bin .eql (.t 48) (.k (.int .u8 3))),zM 50 49,zV 51 3 50 false,zV 52 2 50 false,zV 53 12 50 false,zG 54 (.iaddrS 1 (.t 52) (.t 53)) 50 false,zG 55 (.load (.t 54)) 50 false,⟨some 56,(.call (.f 62) [.t 51,.t 55]),(some (50,false))⟩,zO 57 (.pick (.t 50) (.k (.bool true)) (.t 56)),zM 14 57]
  (zS [zM 58 0,zM 59 11,zM 60 2,zM 61 12,zI 62 1 60 61,zL 63 62,zM 64 14,zC 65 (.f 121) [.t 58,.t 59,.t 63,.t 64],zO 66 (.un .not (.t 65))]
  (.cond (.t 66) (zS [zM 67 12,zM 8 67,zK 9 (.int .i64 9),zK 10 (.slice none 0 0)]
  .ret)
  .skip)))))
  (.reg [zM 22 12,zO 23 (.bin .add (.t 22) (.k (.int .i64 1))),zM 12 23]))))))
 (zS [zM 68 11,zK 8 (.int .i64 0),zK 9 (.int .i64 0),zM 10 68]
 .ret))))
def a63:AF:=⟨69,[.t 8,.t 9,.t 10],.code b63,none⟩
def b64:AC:=
 (zS [zK 2 (.slice none 0 0)]
 (.seq (zS [zM 3 0,⟨some 4,(.isnil false (.t 3)),none⟩]
 (.cond (.t 4) (zS [zK 2 (.slice none 0 0)]
 .ret)
 .skip))
 (zS [zO 5 (.bslice 121 [] 0 []),zM 6 0,zO 7 (.append 121 4 32 (.t 5) (.t 6)),zM 2 7]
 .ret)))
def a64:AF:=⟨8,[.t 2],.code b64,none⟩
def b65:AC:=
 (zS [zK 4 (.slice none 0 0)]
 (zS [zM 6 0,zC 7 (.f 122) [.t 6],zM 5 7]
 (zS [zM 8 5,zM 9 1,zC 10 (.f 123) [.t 8,.t 9]]
 (zS [zM 11 5,zM 4 11]
 .ret))))
def a65:AF:=⟨12,[.t 4],.code b65,none⟩
def b66:AC:=
 (zS [zO 1 (.box 87 (.t 0)),zK 2 .nilFunc]
 (zS [zO 3 (.mkfunc 124 [] [.t 1]),zM 2 3]
 .ret))
def a66:AF:=⟨4,[.t 2],.code b66,none⟩
def b67:AC:=
 (zS [zO 2 (.box 100 (.t 0)),zO 3 (.box 100 (.t 1)),zK 4 (.int .i64 0)]
 (zS [zF 5 1 2,zL 6 5,zF 7 1 3,zL 8 7,zC 9 (.f 68) [.t 6,.t 8],zM 4 9]
 .ret))
def a67:AF:=⟨10,[.t 4],.code b67,none⟩
def b68:AC:=
 (zS [zK 4 (.int .i64 0)]
 (zS [zM 7 0,zC 8 (.f 125) [.t 7],zM 5 8]
 (zS [zM 9 1,zC 10 (.f 125) [.t 9],zM 6 10]
 (.seq (zS [zM 11 5]
 (.cond (.t 11) (.seq (zS [zM 12 6]
 (.cond (.t 12) (zS [zK 4 (.int .i64 0)]
 .ret)
 .skip))
 (zS [zK 4 (.int .i64 (-1))]
 .ret))
 .skip))
 (.seq (zS [zM 13 6]
 (.cond (.t 13) (zS [zK 4 (.int .i64 1)]
 .ret)
 .skip))
 (.seq (zS [zM 14 0,zM 15 1,zB 16 .lss 14 15]
 (.cond (.t 16) (zS [zK 4 (.int .i64 (-1))]
 .ret)
 .skip))
 (.seq (zS [zM 17 0,zM 18 1,zB 19 .gtr 17 18]
 (.cond (.t 19) (zS [zK 4 (.int .i64 1)]
 .ret)
 .skip))
 (zS [zK 4 (.int .i64 0)]
 .ret))))))))
def a68:AF:=⟨20,[.t 4],.code b68,none⟩
def b97:AC:=
 (zS [zK 2 (.bool false)]
 (zS [zM 4 0,zO 5 (.frombits (.t 4)),zM 3 5]
 (zS [zM 6 3,zM 7 3,zB 8 .eql 6 7,zM 9 8,zV 10 0 9 false,zG 11 (.bin .eql (.t 10) (.k (.int .u64 9221120237041090560))) 9 false,zO 12 (.pick (.t 9) (.k (.bool true)) (.t 11)),zM 2 12]
 .ret)))
def a97:AF:=⟨13,[.t 2],.code b97,none⟩
def b98:AC:=
 (zS [zK 2 (.slice none 0 0)]
 (.seq (zS [zM 6 0,zO 7 (.eq false .ptr (.t 6) (.k (.pointer none)))]
 (.cond (.t 7) (zS [zK 2 (.slice none 0 0)]
 .ret)
 .skip))
 (zS [zK 3 (.slice none 0 0)]
 (.seq (zS [zM 8 0,zU 9 8,zF 10 0 9,zL 11 10,zE 12 11,zK 13 (.int .i64 0)]
 (.block 0 (.loop (zS [zB 14 .lss 13 12]
  (.seq (.cond (.t 14) .skip
  (.exit 0))
  (.seq (.block 1 (zS [zI 15 1 11 13,zL 16 15,zM 5 16]
  (.reg [zM 17 3,zM 18 0,zU 19 18,zF 20 1 19,zL 21 20,zM 22 5,zO 23 (.lookup false (.agg #[(.int .i64 0),(.int .u64 0),(.int .u64 0)]) false (.t 21) (.t 22)),zO 24 (.bslice 191 [(.int .i64 0),(.int .u64 0),(.int .u64 0)] 1 [(0,3,(.t 23))]),zO 25 (.append 191 3 24 (.t 17) (.t 24)),zM 3 25])))
  (.reg [zO 26 (.bin .add (.t 13) (.k (.int .i64 1))),zM 13 26])))))))
 (zS [zM 27 3,zM 2 27]
 .ret)))))
def a98:AF:=⟨28,[.t 2],.code b98,none⟩
def b102:AC:=
 (zS [zK 4 (.int .u64 0),zK 5 (.int .i64 0)]
 (.seq (zS [zM 7 0,zM 8 1,zC 9 (.f 148) [.t 7,.t 8],zM 6 9]
 (zS [zM 10 6,zO 11 (.bin .neq (.t 10) (.k (.int .i64 0)))]
 (.cond (.t 11) (zS [zM 12 6,zK 4 (.int .u64 0),zM 5 12]
 .ret)
 .skip)))
 (zS [zM 13 0,zU 14 13,zF 15 1 14,zL 16 15,zM 17 1,zI 18 1 16 17,zL 19 18,zM 4 19,zK 5 (.int .i64 0)]
 .ret)))
def a102:AF:=⟨20,[.t 4,.t 5],.code b102,none⟩
def b103:AC:=
 (zS [zK 4 (.int .i64 0)]
 (.seq (zS [zM 5 0,zO 6 (.eq false .ptr (.t 5) (.k (.pointer none))),zM 7 6,zV 8 1 7 false,zG 9 (.bin .lss (.t 8) (.k (.int .i64 0))) 7 false,zO 10 (.pick (.t 7) (.k (.bool true)) (.t 9)),zM 11 10,zV 12 1 11 false,zG 13 (.bin .geq (.t 12) (.k (.int .i64 12))) 11 false,zO 14 (.pick (.t 11) (.k (.bool true)) (.t 13))]
 (.cond (.t 14) (zS [zK 4 (.int .i64 (-1))]
 .ret)
 .skip))
 (zS [zM 15 1,zO 16 (.bin .mul (.t 15) (.k (.int .i64 5))),zO 17 (.bin .add (.t 16) (.k (.int .i64 3))),zM 18 0,zU 19 18,zF 20 1 19,zL 21 20,zE 22 21,zB 23 .rem 17 22,zM 4 23]
 .ret)))
def a103:AF:=⟨24,[.t 4],.code b103,none⟩
def b104:AC:=
 (zS [zK 6 (.bool false)]
 (zS [zM 10 0,zC 11 (.f 149) [.t 10],zM 9 11,zO 12 (.extract (.t 9) 0),zO 13 (.extract (.t 9) 1),zO 7 (.alloc 209 [(.int .i64 0),(.int .u64 0)]),zT 2 7 12,zM 8 13]
 (zS [zM 14 8,zM 15 14,zG 16 (.faddr 0 (.t 7)) 15 true,zG 17 (.load (.t 16)) 15 true,zG 18 (.bin .eql (.t 17) (.k (.int .i64 (-1)))) 15 true,zV 19 18 15 true,zG 20 (.faddr 0 (.t 7)) 19 false,zG 21 (.load (.t 20)) 19 false,zV 22 1 19 false,zG 23 (.bin .eql (.t 21) (.t 22)) 19 false,zG 24 (.pick (.t 19) (.k (.bool true)) (.t 23)) 15 true,zO 25 (.pick (.t 15) (.t 24) (.k (.bool false))),zM 26 25,zG 27 (.faddr 1 (.t 7)) 26 true,zG 28 (.load (.t 27)) 26 true,zV 29 2 26 true,zG 30 (.bin .leq (.t 28) (.t 29)) 26 true,zO 31 (.pick (.t 26) (.t 30) (.k (.bool false))),zM 6 31]
 .ret)))
def a104:AF:=⟨32,[.t 6],.code b104,none⟩
def b105:AC:=
 (zS [zK 4 (.int .i64 0)]
 (.seq (zS [zM 6 0,zE 7 6,zK 8 (.int .i64 0)]
 (.block 0 (.loop (zS [zB 9 .lss 8 7]
  (.seq (.cond (.t 9) .skip
  (.exit 0))
  (.seq (.block 1 (zS [zM 10 8,zM 5 10]
  (zS [zM 11 1,zM 12 0,zM 13 5,zI 14 1 12 13,zL 15 14,zC 16 (.t 11) [.t 15]]
  (.cond (.t 16) (zS [zM 17 5,zM 4 17]
  .ret)
  .skip))))
  (.reg [zO 18 (.bin .add (.t 8) (.k (.int .i64 1))),zM 8 18])))))))
 (zS [zK 4 (.int .i64 (-1))]
 .ret)))
def a105:AF:=⟨19,[.t 4],.code b105,none⟩
def b106:AC:=
 (zS [zK 4 (.pointer none)]
 (zS [zM 5 1,zM 6 0,zO 7 (.build [(.slice none 0 0),(.pointer none)] [(0,1,(.t 5)),(1,1,(.t 6))]),zO 8 (.box 213 (.t 7)),zM 4 8]
 .ret))
def a106:AF:=⟨9,[.t 4],.code b106,none⟩
def b107:AC:=
 (zS [zK 2 (.int .i64 0)]
 (.seq (zS [zM 3 0,zO 4 (.eq false .ptr (.t 3) (.k (.pointer none)))]
 (.cond (.t 4) (zS [zK 2 (.int .i64 0)]
 .ret)
 .skip))
 (zS [zM 5 0,zU 6 5,zF 7 1 6,zL 8 7,zM 2 8]
 .ret)))
def a107:AF:=⟨9,[.t 2],.code b107,none⟩
def b108:AC:=
 (zS [zO 6 (.alloc 41 [(.bool false),(.int .u64 0),(.bool false),(.int .i64 0),(.bool false),(.int .u8 0),(.int .i64 0)])]
 (zS [zM 15 2,zU 16 15,zF 17 5 16,zF 18 1 17,zL 19 18,zM 7 19]
 (.seq (zS [zM 21 2,zU 22 21,zF 23 1 22,zL 24 23,zM 25 7,zC 26 (.f 112) [.t 24,.t 25],zM 20 26,zO 27 (.extract (.t 20) 0),zO 28 (.extract (.t 20) 1),zM 8 27,zM 9 28]
 (zS [zM 29 9]
 (.cond (.t 29) (zS [zM 30 0,zM 31 2,zM 32 8,zC 33 (.f 150) [.t 30,.t 31,.t 32],zT 7 6 33]
 .ret)
 .skip)))
 (zS [zM 34 0,zU 35 34,zF 36 0 35,zL 37 36,zM 38 7,zC 39 (.f 103) [.t 37,.t 38],zM 10 39]
 (zS [zM 41 0,zU 42 41,zF 43 0 42,zL 44 43,zM 45 10,zC 46 (.f 102) [.t 44,.t 45],zM 40 46,zO 47 (.extract (.t 40) 0),zO 48 (.extract (.t 40) 1),zM 11 47,zM 12 48]
 (zS [zM 49 2,zU 50 49,zF 51 10 50,zF 52 2 51,zL 53 52,zO 54 (.bin .add (.t 53) (.k (.int .i64 1))),zU 55 49,zF 56 10 55,zF 57 2 56,zT 1 57 54]
 (.seq (zS [zM 58 2,zU 59 58,zF 60 10 59,zF 61 2 60,zL 62 61]
 (.block 0 (zS [zO 64 (.bin .eql (.t 62) (.k (.int .i64 1))),zM 63 64]
 (.cond (.t 63) (.seq (zS [zM 66 0,zM 67 1,zM 68 10,zC 69 (.f 151) [.t 66,.t 67,.t 68],zM 65 69,zO 70 (.extract (.t 65) 0),zO 71 (.extract (.t 65) 1),zO 13 (.alloc 41 [(.bool false),(.int .u64 0),(.bool false),(.int .i64 0),(.bool false),(.int .u8 0),(.int .i64 0)]),zT 7 13 70,zM 14 71]
 (zS [zM 72 14]
 (.cond (.t 72) (zS [zM 73 2,zU 74 73,zF 75 10 74,zF 76 2 75,zN (.store 1 (.t 76) (.k (.int .i64 0)))]
 (zS [zO 77 (.loadN 7 (.t 13)),zT 7 6 77]
 .ret))
 .skip)))
 (.seq (.seq (.dreg (zQ (zM 78 0) (zQ (zU 79 78) (zQ (zF 80 0 79) (zQ (zL 81 80) (zQ (zM 82 10) (zQ (zM 84 2) (zQ (zU 85 84) (zQ (zF 86 3 85) (zQ (zL 87 86) (.loud (zC 83 (.f 152) [.t 81,.t 82]) [zL 87 86] (zQ (zB 88 .gtr 83 87) .nil))))))))))))
 (.cond (.t 88) (zS [zM 89 0,zM 90 1,zC 91 (.f 56) [.t 89,.t 90,(.k (.int .u8 1))],zT 7 6 91]
 .ret)
 .skip))
 (zS [zM 92 2,zM 93 11,zU 94 92,zF 95 10 94,zF 96 0 95,zT 1 96 93]
 (zS [zO 97 (.build [(.bool false),(.int .u64 0),(.bool false),(.int .i64 0),(.bool false),(.int .u8 0),(.int .i64 0)] []),zT 7 6 97]
 .ret))))
 (zS [zO 99 (.bin .eql (.t 62) (.k (.int .i64 2))),zM 98 99]
 (.cond (.t 98) (zS [zM 100 2,zM 101 0,zU 102 101,zF 103 1 102,zL 104 103,zM 105 7,zI 106 1 104 105,zL 107 106,zU 108 100,zF 109 10 108,zF 110 1 109,zT 1 110 107]
 (zS [zO 111 (.build [(.bool false),(.int .u64 0),(.bool false),(.int .i64 0),(.bool false),(.int .u8 0),(.int .i64 0)] []),zT 7 6 111]
 .ret))
 .skip))))))
 (.seq (zS [zM 112 11,zM 113 2,zU 114 113,zF 115 10 114,zF 116 0 115,zL 117 116,zB 118 .neq 112 117]
 (.cond (.t 118) (zS [zM 119 0,zM 120 1,zC 121 (.f 56) [.t 119,.t 120,(.k (.int .u8 1))],zT 7 6 121]
 .ret)
 .skip))
 (.seq (.seq (.dreg (zQ (zM 122 2) (zQ (zU 123 122) (zQ (zF 124 0 123) (zQ (zL 125 124) (zQ (zM 126 7) (zQ (zM 127 2) (zQ (zU 128 127) (zQ (zF 129 10 128) (zQ (zF 130 1 129) (zQ (zL 131 130) (zQ (zM 132 0) (zQ (zU 133 132) (zQ (zF 134 0 133) (zQ (zL 135 134) (zQ (zM 136 10) (.loud (zC 137 (.f 152) [.t 135,.t 136]) [zL 131 130,zL 125 124] (zQ (zO 138 (.build [(.int .i64 0),(.int .u64 0),(.int .u64 0)] [(0,1,(.t 126)),(1,1,(.t 131)),(2,1,(.t 137))])) (.loud (zC 139 (.f 153) [.t 125,.t 138]) [] (zQ (zO 140 (.bin .neq (.t 139) (.k (.int .i64 0)))) .nil))))))))))))))))))))
 (.cond (.t 140) (zS [zM 141 0,zM 142 1,zC 143 (.f 56) [.t 141,.t 142,(.k (.int .u8 2))],zT 7 6 143]
 .ret)
 .skip))
 (zS [zM 144 0,zM 145 2,zM 146 2,zU 147 146,zF 148 10 147,zF 149 1 148,zL 150 149,zC 151 (.f 150) [.t 144,.t 145,.t 150],zT 7 6 151]
 .ret))))))))))
def a108:AF:=⟨152,[(.c 6 true 7)],.code b108,none⟩
def b109:AC:=
 (zS [zO 6 (.alloc 41 [(.bool false),(.int .u64 0),(.bool false),(.int .i64 0),(.bool false),(.int .u8 0),(.int .i64 0)])]
 (.seq (zS [zM 9 2,zU 10 9,zF 11 8 10,zL 12 11]
 (.block 0 (zS [zO 14 (.bin .eql (.t 12) (.k (.int .i64 1))),zM 13 14]
 (.cond (.t 13) (zS [zM 15 0,zM 16 1,zM 17 2,zC 18 (.f 154) [.t 15,.t 16,.t 17],zT 7 6 18]
 .ret)
 (zS [zO 20 (.bin .eql (.t 12) (.k (.int .i64 2))),zM 19 20]
 (.cond (.t 19) (zS [zM 21 0,zM 22 1,zM 23 2,zC 24 (.f 155) [.t 21,.t 22,.t 23],zT 7 6 24]
 .ret)
 (zS [zO 26 (.bin .eql (.t 12) (.k (.int .i64 3))),zM 25 26]
 (.cond (.t 25) (zS [zM 27 2,zU 28 27,zF 29 1 28,zL 30 29,zC 31 (.f 55) [.t 30],zM 7 31]
 (.seq (.dreg (zQ (zM 32 0) (zQ (zU 33 32) (zQ (zF 34 1 33) (zQ (zL 35 34) (zQ (zM 36 7) (zQ (zM 37 2) (zQ (zU 38 37) (zQ (zF 39 9 38) (zQ (zL 40 39) (zQ (zI 41 2 36 40) (zQ (zF 42 0 41) (zQ (zL 43 42) (zQ (zM 44 7) (zQ (zM 45 2) (zQ (zU 46 45) (zQ (zF 47 9 46) (zQ (zL 48 47) (zQ (zI 49 2 44 48) (zQ (zF 50 1 49) (zQ (zL 51 50) (zQ (zI 52 1 35 43) (.loud (zT 1 52 51) [] .nil)))))))))))))))))))))))
 (.seq (zS [zM 53 2,zU 54 53,zF 55 9 54,zL 56 55,zO 57 (.bin .add (.t 56) (.k (.int .i64 1))),zU 58 53,zF 59 9 58,zT 1 59 57]
 (zS [zM 60 2,zU 61 60,zF 62 9 61,zL 63 62,zM 64 7,zE 65 64,zB 66 .eql 63 65]
 (.cond (.t 66) (.reg [zM 67 2,zU 68 67,zF 69 8 68,zN (.store 1 (.t 69) (.k (.int .i64 4)))])
 .skip)))
 (zS [zO 70 (.build [(.bool false),(.int .u64 0),(.bool false),(.int .i64 0),(.bool false),(.int .u8 0),(.int .i64 0)] []),zT 7 6 70]
 .ret))))
 (zS [zO 72 (.bin .eql (.t 12) (.k (.int .i64 4))),zM 71 72]
 (.cond (.t 71) (zS [zM 73 0,zU 74 73,zF 75 0 74,zL 76 75,zM 77 1,zC 78 (.f 58) [.t 76,.t 77],zM 8 78]
 (.seq (.dreg (zQ (zM 79 0) (zQ (zU 80 79) (zQ (zF 81 0 80) (zQ (zL 82 81) (zQ (zM 83 1) (zQ (zM 84 8) (zQ (zO 85 (.iaddrS 1 (.t 84) (.k (.int .i64 0)))) (zQ (zL 86 85) (zQ (zM 87 2) (zQ (zU 88 87) (zQ (zF 89 4 88) (zQ (zL 90 89) (.loud (zC 91 (.f 156) [.t 82,.t 83,.t 86,.t 90]) [] .nil))))))))))))))
 (.seq (zS [zM 92 8,zE 93 92,zO 94 (.bin .eql (.t 93) (.k (.int .i64 1)))]
 (.cond (.t 94) (zS [zM 95 0,zM 96 1,zC 97 (.f 157) [.t 95,.t 96],zT 7 6 97]
 .ret)
 .skip))
 (zS [zO 98 (.build [(.bool false),(.int .u64 0),(.bool false),(.int .i64 0),(.bool false),(.int .u8 0),(.int .i64 0)] []),zT 7 6 98]
 .ret))))
 .skip))))))))))
 (zS [zM 99 0,zM 100 2,zO 101 (.build [(.int .i64 0),(.int .u64 0)] []),zC 102 (.f 50) [.t 99,(.k (.int .u8 7)),.t 100,.t 101]]
 (.seq (zS [zM 103 2,zU 104 103,zF 105 1 104,zL 106 105,zC 107 (.f 55) [.t 106],zE 108 107,zO 109 (.bin .eql (.t 108) (.k (.int .i64 0)))]
 (.cond (.t 109) (zS [zM 110 0,zM 111 1,zC 112 (.f 157) [.t 110,.t 111],zT 7 6 112]
 .ret)
 .skip))
 (zS [zM 113 2,zU 114 113,zF 115 8 114,zN (.store 1 (.t 115) (.k (.int .i64 1)))]
 (zS [zO 116 (.build [(.bool false),(.int .u64 0),(.bool false),(.int .i64 0),(.bool false),(.int .u8 0),(.int .i64 0)] []),zT 7 6 116]
 .ret))))))
def a109:AF:=⟨117,[(.c 6 true 7)],.code b109,none⟩
def b110:AC:=
 (zS [zO 6 (.alloc 41 [(.bool false),(.int .u64 0),(.bool false),(.int .i64 0),(.bool false),(.int .u8 0),(.int .i64 0)])]
 (zS [zM 7 0,zM 8 1,zC 9 (.f 56) [.t 7,.t 8,(.k (.int .u8 4))],zT 7 6 9]
 .ret))
def a110:AF:=⟨10,[(.c 6 true 7)],.code b110,none⟩
def b111:AC:=
 (zS [zO 6 (.alloc 41 [(.bool false),(.int .u64 0),(.bool false),(.int .i64 0),(.bool false),(.int .u8 0),(.int .i64 0)])]
 (zS [zO 9 (.build [(.int .i64 0),(.int .u64 0)] []),zO 7 (.alloc 104 [(.int .i64 0),(.int .u64 0)]),zT 2 7 9]
 (zS [zK 8 (.int .u8 3)]
 (.seq (zS [zM 10 2,zU 11 10,zF 12 5 11,zF 13 0 12,zL 14 13]
 (.block 0 (zS [zO 40 (.bin .eql (.t 14) (.k (.int .u8 3))),zM 39 40]
 (.cond (.t 39) (zS [zM 41 2,zU 42 41,zF 43 1 42,zL 44 43,zC 45 (.f 158) [.t 44]]
 (.reg [zK 8 (.int .u8 4)]))
 (zS [zO 47 (.bin .eql (.t 14) (.k (.int .u8 4))),zM 46 47]
 (.cond (.t 46) (zS [zM 48 2,zU 49 48,zF 50 1 49,zL 51 50,zC 52 (.f 159) [.t 51]]
 (.reg [zK 8 (.int .u8 5)]))
 (zS [zO 54 (.bin .eql (.t 14) (.k (.int .u8 5))),zM 53 54]
 (.cond (.t 53) (zS [zM 55 2,zU 56 55,zF 57 1 56,zL 58 57,zC 59 (.f 160) [.t 58]]
 (.reg [zK 8 (.int .u8 6)]))
 (.seq (.dreg (zQ (zM 15 2) (zQ (zU 16 15) (zQ (zF 17 5 16) (zQ (zF 18 1 17) (zQ (zL 19 18) (zQ (zM 20 2) (zQ (zU 21 20) (zQ (zF 22 5 21) (zQ (zF 23 2 22) (zQ (zL 24 23) (zQ (zO 25 (.build [(.int .i64 0),(.int .u64 0)] [(0,1,(.t 19)),(1,1,(.t 24))])) (.loud (zT 2 7 25) [] .nil)))))))))))))
 (.seq (.dreg (zQ (zM 26 2) (zQ (zU 27 26) (zQ (zF 28 1 27) (zQ (zL 29 28) (zQ (zF 30 0 7) (zQ (zL 31 30) (zQ (zF 32 1 7) (zQ (zL 33 32) (.loud (zC 34 (.f 161) [.t 29,.t 31,.t 33]) [] (zQ (zO 35 (.bin .neq (.t 34) (.k (.int .i64 0)))) .nil)))))))))))
 (.cond (.t 35) (zS [zM 36 0,zM 37 1,zC 38 (.f 56) [.t 36,.t 37,(.k (.int .u8 2))],zT 7 6 38]
 .ret)
 .skip)))))))))))
 (zS [zM 60 0,zM 61 8,zM 62 2,zO 63 (.loadN 2 (.t 7)),zC 64 (.f 50) [.t 60,.t 61,.t 62,.t 63]]
 (zS [zM 65 2,zC 66 (.f 162) [.t 65]]
 (zS [zO 67 (.build [(.bool false),(.int .u64 0),(.bool false),(.int .i64 0),(.bool false),(.int .u8 0),(.int .i64 0)] [(0,1,(.k (.bool true)))]),zT 7 6 67]
 .ret)))))))
def a111:AF:=⟨68,[(.c 6 true 7)],.code b111,none⟩
def b112:AC:=
 (zS [zO 3 (.box 3 (.t 1)),zO 4 (.alloc 30 [(.int .u64 0)]),zO 5 (.alloc 4 [(.bool false)])]
 (.seq (zS [zM 9 0,zO 10 (.eq false .ptr (.t 9) (.k (.pointer none)))]
 (.cond (.t 10) (zS [zN (.store 1 (.t 4) (.k (.int .u64 0))),zN (.store 1 (.t 5) (.k (.bool false)))]
 .ret)
 .skip))
 (.seq (zS [zM 11 0,zU 12 11,zF 13 0 12,zL 14 13,zC 15 (.f 163) [.t 14]]
 (.block 0 (.rfunc (.t 15) [16] (.reg [zM 6 16])
  (.block 1 (zS [zM 18 6,zL 19 3,zC 20 (.f 164) [.t 18,.t 19],zM 17 20,zO 21 (.extract (.t 17) 0),zO 22 (.extract (.t 17) 1),zM 7 21,zM 8 22]
  (zS [zM 23 8]
  (.cond (.t 23) (zS [zM 24 7,zT 1 4 24,zN (.store 1 (.t 5) (.k (.bool true)))]
  .ret)
  .skip)))))))
 (zS [zN (.store 1 (.t 4) (.k (.int .u64 0))),zN (.store 1 (.t 5) (.k (.bool false)))]
 .ret))))
def a112:AF:=⟨25,[(.c 4 false 1),(.c 5 false 1)],.code b112,none⟩
def b113:AC:=
 (zS [zK 4 (.int .i64 0)]
 (zS [zM 8 0,zM 9 1,zC 10 (.f 58) [.t 8,.t 9],zM 5 10]
 (.seq (zS [zM 11 5,zE 12 11,zK 13 (.int .i64 0)]
 (.block 0 (.loop (zS [zB 14 .lss 13 12]
  (.seq (.cond (.t 14) .skip
  (.exit 0))
  (.seq (.block 1 (zS [zI 15 1 11 13,zL 16 15,zM 7 16]
  (.reg [zM 17 0,zM 18 1,zM 19 7,zC 20 (.f 165) [.t 17,.t 18,.t 19]])))
  (.reg [zO 21 (.bin .add (.t 13) (.k (.int .i64 1))),zM 13 21])))))))
 (zS [zM 22 5,zE 23 22,zM 4 23]
 .ret))))
def a113:AF:=⟨24,[.t 4],.code b113,none⟩
def b114:AC:=
 (zS [zK 8 (.bool true)]
 (zS [zK 9 (.bool true)]
 (.block 0 (.loop (.block 1 (zS [zM 19 2,zM 20 1,zB 21 .sub 19 20,zM 10 21]
  (.seq (zS [zM 22 10,zO 23 (.bin .leq (.t 22) (.k (.int .i64 12)))]
  (.cond (.t 23) (zS [zM 24 0,zM 25 1,zM 26 2,zC 27 (.f 166) [.t 24,.t 25,.t 26]]
  .ret)
  .skip))
  (.seq (zS [zM 28 3,zO 29 (.bin .eql (.t 28) (.k (.int .i64 0)))]
  (.cond (.t 29) (zS [zM 30 0,zM 31 1,zM 32 2,zC 33 (.f 167) [.t 30,.t 31,.t 32]]
  .ret)
  .skip))
  (.seq (zS [zM 34 8,zO 35 (.un .not (.t 34))]
  (.cond (.t 35) (zS [zM 36 0,zM 37 1,zM 38 2,zC 39 (.f 168) [.t 36,.t 37,.t 38]]
  (.reg [zM 40 3,zO 41 (.bin .sub (.t 40) (.k (.int .i64 1))),zM 3 41]))
  .skip))
  (zS [zM 43 0,zM 44 1,zM 45 2,zC 46 (.f 169) [.t 43,.t 44,.t 45],zM 42 46,zO 47 (.extract (.t 42) 0),zO 48 (.extract (.t 42) 1),zM 11 47,zM 12 48]
  (.seq (zS [zM 49 12,zO 50 (.bin .eql (.t 49) (.k (.int .i64 2)))]
  (.cond (.t 50) (zS [zM 51 0,zM 52 1,zM 53 2,zC 54 (.f 170) [.t 51,.t 52,.t 53]]
  (zS [zM 55 2,zO 56 (.bin .sub (.t 55) (.k (.int .i64 1))),zM 57 11,zM 58 1,zB 59 .sub 57 58,zB 60 .sub 56 59,zM 11 60]
  (.reg [zK 12 (.int .i64 1)])))
  .skip))
  (.seq (zS [zM 61 8,zM 62 61,zV 63 9 62 true,zO 64 (.pick (.t 62) (.t 63) (.k (.bool false))),zM 65 64,zV 66 12 65 true,zG 67 (.bin .eql (.t 66) (.k (.int .i64 1))) 65 true,zO 68 (.pick (.t 65) (.t 67) (.k (.bool false)))]
  (.cond (.t 68) (zS [zM 69 0,zM 70 1,zM 71 2,zC 72 (.f 171) [.t 69,.t 70,.t 71]]
  (.cond (.t 72) .ret
  .skip))
  .skip))
  (.seq (.seq (.dreg (zQ (zM 73 1) (zQ (zO 74 (.bin .gtr (.t 73) (.k (.int .i64 0)))) (zQ (zM 75 74) (zQ (zV 76 0 75 true) (zQ (zV 77 1 75 true) (zQ (zG 78 (.bin .sub (.t 77) (.k (.int .i64 1))) 75 true) (zQ (zG 79 (.iaddrS 1 (.t 76) (.t 78)) 75 true) (zQ (zG 80 (.load (.t 79)) 75 true) (zQ (zV 81 0 75 true) (zQ (zV 82 11 75 true) (zQ (zG 83 (.iaddrS 1 (.t 81) (.t 82)) 75 true) (zQ (zG 84 (.load (.t 83)) 75 true) (.loud ⟨some 85,(.call (.f 172) [.t 80,.t 84]),(some (75,true))⟩ [] (zQ (zG 86 (.un .not (.t 85)) 75 true) (zQ (zO 87 (.pick (.t 75) (.t 86) (.k (.bool false)))) .nil))))))))))))))))
  (.cond (.t 87) (zS [zM 88 0,zM 89 1,zM 90 2,zM 91 11,zC 92 (.f 173) [.t 88,.t 89,.t 90,.t 91],zM 13 92]
  (zS [zM 93 13,zM 1 93]
  (.exit 1)))
  .skip))
  (zS [zM 95 0,zM 96 1,zM 97 2,zM 98 11,zC 99 (.f 174) [.t 95,.t 96,.t 97,.t 98],zM 94 99,zO 100 (.extract (.t 94) 0),zO 101 (.extract (.t 94) 1),zM 14 100,zM 15 101]
  (zS [zM 102 15,zM 9 102]
  (zS [zM 103 14,zM 104 1,zB 105 .sub 103 104,zM 106 2,zM 107 14,zB 108 .sub 106 107,zM 16 105,zM 17 108]
  (zS [zM 109 10,zO 110 (.bin .quo (.t 109) (.k (.int .i64 8))),zM 18 110]
  (zS [zM 111 16,zM 112 17,zB 113 .lss 111 112]
  (.cond (.t 113) (zS [zM 114 16,zM 115 18,zB 116 .geq 114 115,zM 8 116]
  (zS [zM 117 0,zM 118 1,zM 119 14,zM 120 3,zC 121 (.f 114) [.t 117,.t 118,.t 119,.t 120]]
  (.reg [zM 122 14,zO 123 (.bin .add (.t 122) (.k (.int .i64 1))),zM 1 123])))
  (zS [zM 124 17,zM 125 18,zB 126 .geq 124 125,zM 8 126]
  (zS [zM 127 0,zM 128 14,zO 129 (.bin .add (.t 128) (.k (.int .i64 1))),zM 130 2,zM 131 3,zC 132 (.f 114) [.t 127,.t 129,.t 130,.t 131]]
  (.reg [zM 133 14,zM 2 133]))))))))))))))))))))))
def a114:AF:=⟨134,[],.code b114,none⟩
def b115:AC:=
 (zS [zK 2 (.int .i64 0)]
 (.seq (.cond (.k (.bool false)) (zS [zM 3 0,zO 4 (.conv (.int .u32) (.t 3)),zC 5 (.f 175) [.t 4],zM 2 5]
 .ret)
 .skip)
 (zS [zM 6 0,zC 7 (.f 176) [.t 6],zM 2 7]
 .ret)))
def a115:AF:=⟨8,[.t 2],.code b115,none⟩
def b116:AC:=
 (zS [zO 2 (.box 80 (.t 0)),zO 3 (.box 3 (.t 1)),zK 4 .nilFunc]
 (zS [zO 5 (.mkfunc 177 [] [.t 2,.t 3]),zM 4 5]
 .ret))
def a116:AF:=⟨6,[.t 4],.code b116,none⟩
def b117:AC:=
 (zS [zK 2 (.bool false)]
 (.seq (zS [zM 4 0,zE 5 4,zO 6 (.bin .gtr (.t 5) (.k (.int .i64 400)))]
 (.cond (.t 6) (zS [zK 2 (.bool false)]
 .ret)
 .skip))
 (.seq (zS [zK 3 (.int .i64 0)]
 (.block 0 (.loop (.seq (zS [zM 7 3,zM 8 0,zE 9 8,zB 10 .lss 7 9]
  (.cond (.t 10) .skip
  (.exit 0)))
  (.seq (.block 1 (zS [zM 13 0,zM 14 3,zC 15 (.f 179) [.t 13,.t 14],zO 16 (.un .not (.t 15))]
  (.cond (.t 16) (zS [zK 2 (.bool false)]
  .ret)
  .skip)))
  (.reg [zM 11 3,zO 12 (.bin .add (.t 11) (.k (.int .i64 1))),zM 3 12]))))))
 (zS [zK 2 (.bool true)]
 .ret))))
def a117:AF:=⟨17,[.t 2],.code b117,none⟩
def b118:AC:=
 (zS [zK 4 (.int .u8 0)]
 (.seq (zS [zM 7 0,zM 8 0,zE 9 8,zM 10 1,zC 11 (.f 119) [.t 7,.t 9,.t 10,(.k (.int .u8 1))],zO 12 (.un .not (.t 11))]
 (.cond (.t 12) (zS [zK 4 (.int .u8 0)]
 .ret)
 .skip))
 (zS [zK 5 (.int .u8 1)]
 (.seq (zS [zK 6 (.int .i64 0)]
 (.block 0 (.loop (.seq (zS [zM 13 6,zM 14 0,zE 15 14,zB 16 .lss 13 15]
  (.cond (.t 16) .skip
  (.exit 0)))
  (.seq (.block 1 (.seq (zS [zM 19 0,zM 20 6,zI 21 4 19 20,zF 22 1 21,zL 23 22,zM 24 1,zB 25 .neq 23 24]
  (.cond (.t 25) (.exit 1)
  .skip))
  (zS [zM 26 0,zM 27 6,zI 28 4 26 27,zF 29 0 28,zL 30 29]
  (.block 2 (zS [zO 32 (.bin .eql (.t 30) (.k (.int .u8 7))),zM 31 32]
  (.cond (.t 31) (.reg [zK 5 (.int .u8 2)])
  (zS [zO 34 (.bin .eql (.t 30) (.k (.int .u8 8))),zM 33 34]
  (.cond (.t 33) (.reg [zK 5 (.int .u8 3)])
  (zS [zO 36 (.bin .eql (.t 30) (.k (.int .u8 9))),zM 35 36]
  (.cond (.t 35) (.reg [zK 5 (.int .u8 4)])
  .skip))))))))))
  (.reg [zM 17 6,zO 18 (.bin .add (.t 17) (.k (.int .i64 1))),zM 6 18]))))))
 (zS [zM 37 5,zM 4 37]
 .ret)))))
def a118:AF:=⟨38,[.t 4],.code b118,none⟩
def b119:AC:=
 (zS [zK 8 (.bool false)]
 (.seq (zS [zK 9 (.int .i64 0)]
 (.block 0 (.loop (.seq (zS [zM 10 9,zM 11 1,zB 12 .lss 10 11]
  (.cond (.t 12) .skip
  (.exit 0)))
  (.seq (.block 1 (zS [zM 15 0,zM 16 9,zI 17 4 15 16,zF 18 1 17,zL 19 18,zM 20 2,zB 21 .eql 19 20,zM 22 21,zV 23 0 22 true,zV 24 9 22 true,zG 25 (.iaddrS 4 (.t 23) (.t 24)) 22 true,zG 26 (.faddr 0 (.t 25)) 22 true,zG 27 (.load (.t 26)) 22 true,zV 28 3 22 true,zG 29 (.bin .eql (.t 27) (.t 28)) 22 true,zO 30 (.pick (.t 22) (.t 29) (.k (.bool false)))]
  (.cond (.t 30) (zS [zK 8 (.bool true)]
  .ret)
  .skip)))
  (.reg [zM 13 9,zO 14 (.bin .add (.t 13) (.k (.int .i64 1))),zM 9 14]))))))
 (zS [zK 8 (.bool false)]
 .ret)))
def a119:AF:=⟨31,[.t 8],.code b119,none⟩
def b120:AC:=
 (zS [zK 6 (.bool false)]
 (.seq (zS [zK 7 (.int .i64 0)]
 (.block 0 (.loop (.seq (zS [zM 8 7,zM 9 0,zE 10 9,zB 11 .lss 8 10]
  (.cond (.t 11) .skip
  (.exit 0)))
  (.seq (.block 1 (zS [zM 14 0,zM 15 7,zI 16 4 14 15,zF 17 0 16,zL 18 17,zO 19 (.bin .eql (.t 18) (.k (.int .u8 1))),zM 20 19,zV 21 0 20 true,zV 22 7 20 true,zG 23 (.iaddrS 4 (.t 21) (.t 22)) 20 true,zG 24 (.faddr 1 (.t 23)) 20 true,zG 25 (.load (.t 24)) 20 true,zV 26 2 20 true,zG 27 (.bin .eql (.t 25) (.t 26)) 20 true,zO 28 (.pick (.t 20) (.t 27) (.k (.bool false)))]
  (.cond (.t 28) (zS [zM 29 0,zM 30 7,zM 31 1,zC 32 (.f 119) [.t 29,.t 30,.t 31,(.k (.int .u8 8))],zM 33 32,zV 34 0 33 false,zV 35 7 33 false,zV 36 1 33 false,⟨some 37,(.call (.f 119) [.t 34,.t 35,.t 36,(.k (.int .u8 9))]),(some (33,false))⟩,zO 38 (.pick (.t 33) (.k (.bool true)) (.t 37)),zM 6 38]
  .ret)
  .skip)))
  (.reg [zM 12 7,zO 13 (.bin .add (.t 12) (.k (.int .i64 1))),zM 7 13]))))))
 (zS [zK 6 (.bool false)]
 .ret)))
def a120:AF:=⟨39,[.t 6],.code b120,none⟩
def b121:AC:=
 (zS [zK 8 (.bool false)]
 (zS [zM 14 0,zM 15 2,zC 16 (.f 180) [.t 14,.t 15],zM 17 0,zM 18 2,zC 19 (.f 181) [.t 17,.t 18],zM 9 16,zM 10 19]
 (.seq (zS [zK 11 (.int .i64 0)]
 (.block 0 (.loop (.seq (zS [zM 20 11,zM 21 9,zE 22 21,zB 23 .lss 20 22]
  (.cond (.t 23) .skip
  (.exit 0)))
  (.seq (.block 1 (.seq (.dreg (zQ (zM 26 9) (zQ (zM 27 11) (zQ (zI 28 2 26 27) (zQ (zF 29 0 28) (zQ (zL 30 29) (zQ (zM 31 1) (zQ (zE 32 31) (zQ (zB 33 .geq 30 32) (zQ (zM 34 33) (zQ (zV 35 1 34 false) (zQ (zV 36 9 34 false) (zQ (zV 37 11 34 false) (zQ (zG 38 (.iaddrS 2 (.t 36) (.t 37)) 34 false) (zQ (zG 39 (.faddr 0 (.t 38)) 34 false) (zQ (zG 40 (.load (.t 39)) 34 false) (zQ (zG 41 (.iaddrS 1 (.t 35) (.t 40)) 34 false) (zQ (zG 42 (.load (.t 41)) 34 false) (zQ (zV 43 9 34 false) (zQ (zV 44 11 34 false) (zQ (zG 45 (.iaddrS 2 (.t 43) (.t 44)) 34 false) (zQ (zG 46 (.faddr 1 (.t 45)) 34 false) (zQ (zG 47 (.load (.t 46)) 34 false) (zQ (zG 48 (.bin .neq (.t 42) (.t 47)) 34 false) (zQ (zO 49 (.pick (.t 34) (.k (.bool true)) (.t 48))) .nil)))))))))))))))))))))))))
  (.cond (.t 49) (zS [zK 8 (.bool false)]
  .ret)
  .skip)))
  (.reg [zM 24 11,zO 25 (.bin .add (.t 24) (.k (.int .i64 1))),zM 11 25]))))))
 (.seq (zS [zK 12 (.int .i64 0)]
 (.block 2 (.loop (.seq (zS [zM 50 12,zM 51 10,zE 52 51,zB 53 .lss 50 52]
  (.cond (.t 53) .skip
  (.exit 2)))
  (.seq (.block 3 (zS [zM 56 10,zM 57 12,zI 58 2 56 57,zF 59 0 58,zL 60 59,zM 61 1,zE 62 61,zB 63 .geq 60 62]
  (.cond (.t 63) (zS [zK 8 (.bool false)]
  .ret)
  .skip)))
  (.reg [zM 54 12,zO 55 (.bin .add (.t 54) (.k (.int .i64 1))),zM 12 55]))))))
 (.seq (zS [zK 13 (.int .i64 0)]
 (.block 4 (.loop (.seq (zS [zM 64 13,zM 65 10,zE 66 65,zB 67 .lss 64 66,zM 68 67,zV 69 3 68 true,zO 70 (.pick (.t 68) (.t 69) (.k (.bool false)))]
  (.cond (.t 70) .skip
  (.exit 4)))
  (.seq (.block 5 (.dreg (zQ (zM 73 1) (zQ (zM 74 10) (zQ (zM 75 13) (zQ (zI 76 2 74 75) (zQ (zF 77 0 76) (zQ (zL 78 77) (zQ (zM 79 10) (zQ (zM 80 13) (zQ (zI 81 2 79 80) (zQ (zF 82 1 81) (zQ (zL 83 82) (zQ (zI 84 1 73 78) (.loud (zT 1 84 83) [] .nil)))))))))))))))
  (.reg [zM 71 13,zO 72 (.bin .add (.t 71) (.k (.int .i64 1))),zM 13 72]))))))
 (zS [zM 85 0,zM 86 2,zC 87 (.f 182) [.t 85,.t 86],zM 8 87]
 .ret))))))
def a121:AF:=⟨88,[.t 8],.code b121,none⟩
def b122:AC:=
 (zS [zK 2 (.slice none 0 0)]
 (zS [zM 3 0,zC 4 (.f 183) [(.k (.slice none 0 0)),.t 3],zM 2 4]
 .ret))
def a122:AF:=⟨5,[.t 2],.code b122,none⟩
def b123:AC:=
 (.reg [zM 4 0,zM 5 0,zE 6 5,zM 7 1,zC 8 (.f 184) [.t 4,.t 6,.t 7]])
def a123:AF:=⟨9,[],.code b123,none⟩
def b124:AC:=
 (zS [zL 5 1,zE 6 5,zK 7 (.int .i64 0)]
 (.block 0 (.loop (zS [zB 8 .lss 7 6]
  (.seq (.cond (.t 8) .skip
  (.exit 0))
  (.seq (.block 1 (zS [zI 9 3 5 7,zO 10 (.loadN 3 (.t 9)),zO 4 (.alloc 100 [(.int .i64 0),(.int .u64 0),(.int .u8 0)]),zT 3 4 10]
  (zS [zM 11 0,zO 12 (.loadN 3 (.t 4)),zC 13 (.t 11) [.t 12],zO 14 (.un .not (.t 13))]
  (.cond (.t 14) .ret
  .skip))))
  (.reg [zO 15 (.bin .add (.t 7) (.k (.int .i64 1))),zM 7 15])))))))
def a124:AF:=⟨16,[],.code b124,none⟩
def b125:AC:=
 (zS [zK 2 (.bool false)]
 (zS [zM 3 0,zM 4 0,zB 5 .neq 3 4,zM 2 5]
 .ret))
def a125:AF:=⟨6,[.t 2],.code b125,none⟩
def b132:AC:=
 (zS [zK 0 (.pointer none)]
 (zS [zO 1 (.build [(.bool false),(.bool false),(.bool false),(.bool false),(.bool false),(.bool false),(.bool false),(.bool false),(.bool false),(.bool false),(.bool false),(.bool false),(.int .u64 0),(.int .u64 0),(.int .u64 0),(.int .u64 0),(.int .u64 0),(.int .u64 0),(.int .u64 0),(.int .u64 0),(.int .u64 0),(.int .u64 0),(.int .u64 0),(.int .u64 0)] []),zO 2 (.bslice 246 [(.bool false),(.bool false),(.bool false),(.bool false),(.bool false),(.bool false),(.bool false),(.bool false),(.bool false),(.bool false),(.bool false),(.bool false),(.int .u64 0),(.int .u64 0),(.int .u64 0),(.int .u64 0),(.int .u64 0),(.int .u64 0),(.int .u64 0),(.int .u64 0),(.int .u64 0),(.int .u64 0),(.int .u64 0),(.int .u64 0)] 1 [(0,24,(.t 1))]),zO 3 (.build [(.slice none 0 0)] [(0,1,(.t 2))]),zO 4 (.box 196 (.t 3)),zM 0 4]
 .ret))
def a132:AF:=⟨5,[.t 0],.code b132,none⟩
def b141:AC:=
 (zS [zK 2 (.slice none 0 0)]
 (zS [zK 3 (.slice none 0 0)]
 (.seq (zS [zK 4 (.int .i64 0)]
 (.block 0 (.loop (.seq (zS [zM 7 4,zO 8 (.bin .lss (.t 7) (.k (.int .i64 12)))]
  (.cond (.t 8) .skip
  (.exit 0)))
  (.seq (.block 1 (zS [zM 12 0,zM 13 4,zC 14 (.f 187) [.t 12,.t 13],zM 11 14,zO 15 (.extract (.t 11) 0),zO 16 (.extract (.t 11) 1),zM 5 15,zM 6 16]
  (zS [zM 17 6]
  (.cond (.t 17) (.reg [zM 18 3,zM 19 4,zM 20 5,zO 21 (.build [(.int .i64 0),(.int .u64 0)] [(0,1,(.t 19)),(1,1,(.t 20))]),zO 22 (.bslice 104 [(.int .i64 0),(.int .u64 0)] 1 [(0,2,(.t 21))]),zO 23 (.append 104 2 16 (.t 18) (.t 22)),zM 3 23])
  .skip))))
  (.reg [zM 9 4,zO 10 (.bin .add (.t 9) (.k (.int .i64 1))),zM 4 10]))))))
 (zS [zM 24 3,zM 2 24]
 .ret))))
def a141:AF:=⟨25,[.t 2],.code b141,none⟩
def b144:AC:=
 (zS [zK 4 (.int .i64 0)]
 (.seq (zS [zM 5 0,zO 6 (.eq false .ptr (.t 5) (.k (.pointer none))),zM 7 6,zV 8 1 7 false,zG 9 (.bin .lss (.t 8) (.k (.int .i64 0))) 7 false,zO 10 (.pick (.t 7) (.k (.bool true)) (.t 9)),zM 11 10,zV 12 1 11 false,zG 13 (.bin .geq (.t 12) (.k (.int .i64 12))) 11 false,zO 14 (.pick (.t 11) (.k (.bool true)) (.t 13))]
 (.cond (.t 14) (zS [zK 4 (.int .i64 (-1))]
 .ret)
 .skip))
 (zS [zM 15 1,zO 16 (.bin .mul (.t 15) (.k (.int .i64 5))),zO 17 (.bin .add (.t 16) (.k (.int .i64 3))),zM 18 0,zU 19 18,zF 20 0 19,zL 21 20,zE 22 21,zB 23 .rem 17 22,zM 4 23]
 .ret)))
def a144:AF:=⟨24,[.t 4],.code b144,none⟩
def b148:AC:=
 (zS [zK 4 (.int .i64 0)]
 (.seq (.block 0 (zS [zM 6 0,zO 7 (.eq false .ptr (.t 6) (.k (.pointer none))),zM 5 7]
 (.cond (.t 5) (zS [zK 4 (.int .i64 1)]
 .ret)
 (zS [zM 9 1,zO 10 (.bin .lss (.t 9) (.k (.int .i64 0))),zM 11 10,zV 12 1 11 false,zV 13 0 11 false,zG 14 (.nilchk (.t 13)) 11 false,zG 15 (.faddr 1 (.t 14)) 11 false,zG 16 (.load (.t 15)) 11 false,zG 17 (.lenS (.t 16)) 11 false,zG 18 (.bin .geq (.t 12) (.t 17)) 11 false,zO 19 (.pick (.t 11) (.k (.bool true)) (.t 18)),zM 8 19]
 (.cond (.t 8) (zS [zK 4 (.int .i64 2)]
 .ret)
 .skip)))))
 (zS [zK 4 (.int .i64 0)]
 .ret)))
def a148:AF:=⟨20,[.t 4],.code b148,none⟩
def b149:AC:=
 (zS [zO 2 (.alloc 209 [(.int .i64 0),(.int .u64 0)]),zK 3 (.bool false)]
 (zS [zM 7 0,zC 8 (.f 204) [.t 7],zO 4 (.alloc 250 [(.bool false),(.bool false),(.bool false),(.bool false),(.bool false)]),zT 5 4 8]
 (zS [zM 9 0,zO 10 (.bin .shr (.t 9) (.k (.int .u64 5))),zO 11 (.build [(.int .i64 0),(.int .u64 0)] [(0,1,(.k (.int .i64 (-1)))),(1,1,(.t 10))]),zO 5 (.alloc 209 [(.int .i64 0),(.int .u64 0)]),zT 2 5 11]
 (.seq (zS [zO 12 (.loadN 5 (.t 4)),zO 13 (.build [(.bool false),(.bool false),(.bool false),(.bool false),(.bool false)] []),zO 14 (.eq true (.ar 5 1 false .bool) (.t 12) (.t 13))]
 (.cond (.t 14) (zS [zF 15 0 5,zN (.store 1 (.t 15) (.k (.int .i64 0)))]
 (.seq (zS [zK 16 (.int .i64 0)]
 (.block 0 (.loop (zS [zO 17 (.bin .lss (.t 16) (.k (.int .i64 4)))]
  (.seq (.cond (.t 17) .skip
  (.exit 0))
  (.seq (.block 1 (zS [zM 18 16,zM 6 18]
  (zS [zM 19 6,zO 20 (.bin .add (.t 19) (.k (.int .i64 1))),zO 21 (.iaddrA 5 1 (.t 4) (.t 20)),zL 22 21]
  (.cond (.t 22) (.dreg (zQ (zF 23 0 5) (zQ (zL 24 23) (zQ (zM 25 6) (zQ (zO 26 (.bin .shl (.k (.int .i64 1)) (.t 25))) (zQ (zB 27 .or 24 26) (zQ (zF 28 0 5) (.loud (zT 1 28 27) [] .nil))))))))
  .skip))))
  (.reg [zO 29 (.bin .add (.t 16) (.k (.int .i64 1))),zM 16 29])))))))
 (zS [zO 30 (.iaddrA 5 1 (.t 4) (.k (.int .i64 0))),zL 31 30,zO 32 (.un .not (.t 31))]
 (.cond (.t 32) (zS [zO 33 (.build [(.int .i64 0),(.int .u64 0)] []),zT 2 2 33,zK 3 (.bool false)]
 .ret)
 .skip))))
 .skip))
 (.seq (.dreg (zQ (zO 34 (.loadN 2 (.t 5))) (zQ (zO 35 (.loadN 2 (.t 5))) (.loud (zC 36 (.f 205) [.t 35]) [zO 34 (.loadN 2 (.t 5))] (.loud (zT 2 2 34) [] (.loud (zM 3 36) [] .nil))))))
 .ret)))))
def a149:AF:=⟨37,[(.c 2 true 2),.t 3],.code b149,none⟩
def b150:AC:=
 (zS [zO 6 (.alloc 41 [(.bool false),(.int .u64 0),(.bool false),(.int .i64 0),(.bool false),(.int .u8 0),(.int .i64 0)])]
 (zS [zM 7 0,zM 8 1,zM 9 1,zU 10 9,zF 11 5 10,zF 12 1 11,zL 13 12,zM 14 2,zO 15 (.build [(.int .i64 0),(.int .u64 0)] [(0,1,(.t 13)),(1,1,(.t 14))]),zC 16 (.f 50) [.t 7,(.k (.int .u8 2)),.t 8,.t 15]]
 (zS [zM 17 1,zC 18 (.f 162) [.t 17]]
 (zS [zM 19 2,zO 20 (.build [(.bool false),(.int .u64 0),(.bool false),(.int .i64 0),(.bool false),(.int .u8 0),(.int .i64 0)] [(0,1,(.k (.bool true))),(1,1,(.t 19))]),zT 7 6 20]
 .ret))))
def a150:AF:=⟨21,[(.c 6 true 7)],.code b150,none⟩
def b151:AC:=
 (zS [zO 6 (.alloc 41 [(.bool false),(.int .u64 0),(.bool false),(.int .i64 0),(.bool false),(.int .u8 0),(.int .i64 0)]),zK 7 (.bool false)]
 (zS [zM 11 0,zU 12 11,zF 13 0 12,zL 14 13,zM 15 2,zC 16 (.f 206) [.t 14,.t 15],zM 10 16,zO 17 (.extract (.t 10) 0),zO 18 (.extract (.t 10) 1),zM 8 17,zM 9 18]
 (.seq (zS [zM 19 9,zO 20 (.un .not (.t 19)),zM 21 20,zV 22 8 21 false,zV 23 1 21 false,zG 24 (.bin .eql (.t 22) (.t 23)) 21 false,zO 25 (.pick (.t 21) (.k (.bool true)) (.t 24))]
 (.cond (.t 25) (zS [zO 26 (.build [(.bool false),(.int .u64 0),(.bool false),(.int .i64 0),(.bool false),(.int .u8 0),(.int .i64 0)] []),zT 7 6 26,zK 7 (.bool false)]
 .ret)
 .skip))
 (zS [zM 27 8,zO 28 (.build [(.bool false),(.int .u64 0),(.bool false),(.int .i64 0),(.bool false),(.int .u8 0),(.int .i64 0)] [(2,1,(.k (.bool true))),(3,1,(.t 27))]),zT 7 6 28,zK 7 (.bool true)]
 .ret))))
def a151:AF:=⟨29,[(.c 6 true 7),.t 7],.code b151,none⟩
def b152:AC:=
 (zS [zK 4 (.int .u64 0)]
 (.seq (zS [zM 8 0,zM 9 1,zC 10 (.f 148) [.t 8,.t 9],zO 11 (.bin .neq (.t 10) (.k (.int .i64 0)))]
 (.cond (.t 11) (zS [zK 4 (.int .u64 0)]
 .ret)
 .skip))
 (zS [zM 13 0,zU 14 13,zF 15 1 14,zL 16 15,zM 17 1,zI 18 1 16 17,zL 19 18,zC 20 (.f 178) [.t 19],zM 12 20,zO 21 (.extract (.t 12) 0),zO 22 (.extract (.t 12) 1),zO 23 (.extract (.t 12) 2),zM 5 21,zM 6 22,zM 7 23]
 (zS [zM 24 6,zM 4 24]
 .ret))))
def a152:AF:=⟨25,[.t 4],.code b152,none⟩
def b153:AC:=
 (zS [zO 3 (.box 191 (.t 1)),zK 4 (.int .i64 0)]
 (.seq (.block 0 (zS [zM 8 0,zO 9 (.eq false .ptr (.t 8) (.k (.pointer none))),zM 7 9]
 (.cond (.t 7) (zS [zK 4 (.int .i64 1)]
 .ret)
 (zS [zF 11 0 3,zL 12 11,zO 13 (.bin .lss (.t 12) (.k (.int .i64 0))),zM 14 13,zG 15 (.faddr 0 (.t 3)) 14 false,zG 16 (.load (.t 15)) 14 false,zG 17 (.bin .geq (.t 16) (.k (.int .i64 12))) 14 false,zO 18 (.pick (.t 14) (.k (.bool true)) (.t 17)),zM 19 18,zG 20 (.faddr 2 (.t 3)) 19 false,zG 21 (.load (.t 20)) 19 false,zG 22 (.bin .gtr (.t 21) (.k (.int .u64 1099511627776))) 19 false,zO 23 (.pick (.t 19) (.k (.bool true)) (.t 22)),zM 10 23]
 (.cond (.t 10) (zS [zK 4 (.int .i64 2)]
 .ret)
 (zS [zF 25 1 3,zL 26 25,zC 27 (.f 43) [.t 26],zO 28 (.un .not (.t 27)),zM 24 28]
 (.cond (.t 24) (zS [zK 4 (.int .i64 3)]
 .ret)
 .skip)))))))
 (.seq (.seq (.dreg (zQ (zM 30 0) (zQ (zU 31 30) (zQ (zF 32 1 31) (zQ (zL 33 32) (zQ (zF 34 0 3) (zQ (zL 35 34) (zQ (zO 36 (.lookup false (.agg #[(.int .i64 0),(.int .u64 0),(.int .u64 0)]) true (.t 33) (.t 35))) (zQ (zM 29 36) (zQ (zO 37 (.extract (.t 29) 0)) (zQ (zO 38 (.extract (.t 29) 1)) (.loud (zO 5 (.alloc 191 [(.int .i64 0),(.int .u64 0),(.int .u64 0)])) [zO 36 (.lookup false (.agg #[(.int .i64 0),(.int .u64 0),(.int .u64 0)]) true (.t 33) (.t 35)),zL 35 34,zL 33 32] (.loud (zT 3 5 37) [] (.loud (zM 6 38) [] .nil))))))))))))))
 (zS [zM 39 6]
 (.cond (.t 39) (zS [zK 4 (.int .i64 0)]
 .ret)
 .skip)))
 (.seq (zS [zM 40 0,zU 41 40,zF 42 0 41,zL 43 42,zE 44 43,zO 45 (.bin .geq (.t 44) (.k (.int .i64 8)))]
 (.cond (.t 45) (zS [zK 4 (.int .i64 4)]
 .ret)
 .skip))
 (.seq (.dreg (zQ (zM 46 0) (zQ (zM 47 0) (zQ (zU 48 47) (zQ (zF 49 0 48) (zQ (zL 50 49) (zQ (zF 51 0 3) (zQ (zL 52 51) (.loud (zO 53 (.bslice 3 [(.int .i64 0)] 1 [(0,1,(.t 52))])) [zL 50 49] (.loud (zO 54 (.append 3 1 8 (.t 50) (.t 53))) [] (zQ (zU 55 46) (zQ (zF 56 0 55) (.loud (zT 1 56 54) [] .nil)))))))))))))
 (.seq (.dreg (zQ (zM 57 0) (zQ (zU 58 57) (zQ (zF 59 1 58) (zQ (zL 60 59) (zQ (zF 61 0 3) (zQ (zL 62 61) (zQ (zO 63 (.loadN 3 (.t 3))) (.loud (zN (.mapupd false (.t 60) (.t 62) (.t 63))) [] .nil)))))))))
 (zS [zK 4 (.int .i64 0)]
 .ret)))))))
def a153:AF:=⟨64,[.t 4],.code b153,none⟩
def b154:AC:=
 (zS [zO 6 (.alloc 41 [(.bool false),(.int .u64 0),(.bool false),(.int .i64 0),(.bool false),(.int .u8 0),(.int .i64 0)])]
 (zS [zM 14 0,zU 15 14,zF 16 0 15,zL 17 16,zM 18 1,zC 19 (.f 58) [.t 17,.t 18],zM 7 19]
 (.seq (zS [zM 20 0,zM 21 2,zC 22 (.f 207) [.t 20,.t 21],zE 23 22,zK 24 (.int .i64 0)]
 (.block 0 (.loop (zS [zB 25 .lss 24 23]
  (.seq (.cond (.t 25) .skip
  (.exit 0))
  (.seq (.block 1 (zS [zI 26 1 22 24,zL 27 26,zM 9 27]
  (.seq (zS [zM 28 7,zM 29 9,zC 30 (.f 208) [.t 28,.t 29]]
  (.cond (.t 30) (.exit 1)
  .skip))
  (zS [zM 32 0,zM 33 1,zM 34 9,zC 35 (.f 151) [.t 32,.t 33,.t 34],zM 31 35,zO 36 (.extract (.t 31) 0),zO 37 (.extract (.t 31) 1),zO 10 (.alloc 41 [(.bool false),(.int .u64 0),(.bool false),(.int .i64 0),(.bool false),(.int .u8 0),(.int .i64 0)]),zT 7 10 36,zM 11 37]
  (.seq (zS [zM 38 11,zO 39 (.un .not (.t 38))]
  (.cond (.t 39) (.reg [zM 40 0,zU 41 40,zF 42 0 41,zL 43 42,zM 44 1,zM 45 9,zC 46 (.f 209) [.t 43,.t 44,.t 45]])
  .skip))
  (zS [zO 47 (.loadN 7 (.t 10)),zT 7 6 47]
  .ret))))))
  (.reg [zO 48 (.bin .add (.t 24) (.k (.int .i64 1))),zM 24 48])))))))
 (zS [zM 50 0,zU 51 50,zF 52 0 51,zL 53 52,zC 54 (.f 210) [.t 53],zM 49 54,zO 55 (.extract (.t 49) 0),zO 56 (.extract (.t 49) 1),zM 12 55,zM 13 56]
 (.seq (zS [zM 57 13,zO 58 (.bin .neq (.t 57) (.k (.int .i64 0)))]
 (.cond (.t 58) (zS [zM 59 0,zM 60 1,zC 61 (.f 56) [.t 59,.t 60,(.k (.int .u8 2))],zT 7 6 61]
 .ret)
 .skip))
 (zS [zM 62 2,zM 63 2,zM 64 2,zM 65 12,zU 66 62,zF 67 4 66,zT 1 67 65,zU 68 63,zF 69 8 68,zN (.store 1 (.t 69) (.k (.int .i64 2))),zU 70 64,zF 71 9 70,zN (.store 1 (.t 71) (.k (.int .i64 0)))]
 (zS [zO 72 (.build [(.bool false),(.int .u64 0),(.bool false),(.int .i64 0),(.bool false),(.int .u8 0),(.int .i64 0)] []),zT 7 6 72]
 .ret)))))))
def a154:AF:=⟨73,[(.c 6 true 7)],.code b154,none⟩
def b155:AC:=
 (zS [zO 6 (.alloc 41 [(.bool false),(.int .u64 0),(.bool false),(.int .i64 0),(.bool false),(.int .u8 0),(.int .i64 0)])]
 (zS [zM 10 2,zU 11 10,zF 12 0 11,zL 13 12,zC 14 (.f 98) [.t 13],zM 7 14]
 (.seq (zS [zM 15 2,zU 16 15,zF 17 9 16,zL 18 17,zM 19 7,zE 20 19,zB 21 .eql 18 20]
 (.cond (.t 21) (zS [zM 22 2,zM 23 2,zM 24 2,zU 25 22,zF 26 13 25,zN (.store 1 (.t 26) (.k (.bool true))),zU 27 23,zF 28 8 27,zN (.store 1 (.t 28) (.k (.int .i64 3))),zU 29 24,zF 30 9 29,zN (.store 1 (.t 30) (.k (.int .i64 0)))]
 (.seq (.dreg (zQ (zM 31 0) (zQ (zU 32 31) (zQ (zF 33 7 32) (zQ (zL 34 33) (zQ (zM 35 2) (zQ (zU 36 35) (zQ (zF 37 2 36) (zQ (zL 38 37) (zQ (zM 39 2) (zQ (zU 40 39) (zQ (zF 41 4 40) (zQ (zL 42 41) (zQ (zO 43 (.bin .mul (.k (.int .u64 2)) (.t 42))) (zQ (zI 44 3 34 38) (zQ (zF 45 1 44) (.loud (zT 1 45 43) [] .nil)))))))))))))))))
 (zS [zO 46 (.build [(.bool false),(.int .u64 0),(.bool false),(.int .i64 0),(.bool false),(.int .u8 0),(.int .i64 0)] []),zT 7 6 46]
 .ret)))
 .skip))
 (.seq (.dreg (zQ (zM 48 0) (zQ (zU 49 48) (zQ (zF 50 0 49) (zQ (zL 51 50) (zQ (zM 52 0) (zQ (zU 53 52) (zQ (zF 54 0 53) (zQ (zL 55 54) (zQ (zM 56 7) (zQ (zM 57 2) (zQ (zU 58 57) (zQ (zF 59 9 58) (zQ (zL 60 59) (zQ (zI 61 3 56 60) (zQ (zF 62 0 61) (zQ (zL 63 62) (.loud (zC 64 (.f 103) [.t 55,.t 63]) [zL 51 50] (.loud (zC 65 (.f 102) [.t 51,.t 64]) [] (zQ (zM 47 65) (zQ (zO 66 (.extract (.t 47) 0)) (zQ (zO 67 (.extract (.t 47) 1)) (.loud (zM 8 66) [] (.loud (zM 9 67) [] .nil))))))))))))))))))))))))
 (.seq (zS [zM 68 8,zM 69 1,zM 70 2,zU 71 70,zF 72 3 71,zL 73 72,zC 74 (.f 104) [.t 68,.t 69,.t 73],zO 75 (.un .not (.t 74))]
 (.cond (.t 75) (zS [zM 76 0,zM 77 1,zC 78 (.f 56) [.t 76,.t 77,(.k (.int .u8 1))],zT 7 6 78]
 .ret)
 .skip))
 (zS [zM 79 2,zU 80 79,zF 81 9 80,zL 82 81,zO 83 (.bin .add (.t 82) (.k (.int .i64 1))),zU 84 79,zF 85 9 84,zT 1 85 83]
 (zS [zO 86 (.build [(.bool false),(.int .u64 0),(.bool false),(.int .i64 0),(.bool false),(.int .u8 0),(.int .i64 0)] []),zT 7 6 86]
 .ret)))))))
def a155:AF:=⟨87,[(.c 6 true 7)],.code b155,none⟩
def b156:AC:=
 (zS [zO 4 (.box 80 (.t 0)),zO 5 (.box 3 (.t 1)),zO 7 (.box 29 (.t 3)),zK 8 (.int .i64 0)]
 (zS [zL 9 4,zM 10 2,zO 11 (.mkfunc 212 [] [.t 7,.t 4,.t 5]),zC 12 (.f 211) [.t 9,.t 10,.t 11],zM 8 12]
 .ret))
def a156:AF:=⟨13,[.t 8],.code b156,none⟩
def b157:AC:=
 (zS [zO 4 (.alloc 41 [(.bool false),(.int .u64 0),(.bool false),(.int .i64 0),(.bool false),(.int .u8 0),(.int .i64 0)])]
 (zS [zM 5 0,zM 6 0,zM 7 1,zU 8 6,zF 9 2 8,zO 10 (.iaddrA 4 1 (.t 9) (.t 7)),zL 11 10,zO 12 (.build [(.int .i64 0),(.int .u64 0)] []),zC 13 (.f 50) [.t 5,(.k (.int .u8 8)),.t 11,.t 12]]
 (zS [zM 14 0,zM 15 1,zU 16 14,zF 17 2 16,zO 18 (.iaddrA 4 1 (.t 17) (.t 15)),zN (.store 1 (.t 18) (.k (.pointer none)))]
 (zS [zO 19 (.build [(.bool false),(.int .u64 0),(.bool false),(.int .i64 0),(.bool false),(.int .u8 0),(.int .i64 0)] [(0,1,(.k (.bool true))),(4,1,(.k (.bool true)))]),zT 7 4 19]
 .ret))))
def a157:AF:=⟨20,[(.c 4 true 7)],.code b157,none⟩
def b158:AC:=
 (zS [zK 2 (.int .i64 0)]
 (.seq (.block 0 (zS [zM 4 0,zO 5 (.eq false .ptr (.t 4) (.k (.pointer none))),zM 3 5]
 (.cond (.t 3) (zS [zK 2 (.int .i64 1)]
 .ret)
 (zS [zM 7 0,zU 8 7,zF 9 1 8,zL 10 9,zO 11 (.bin .geq (.t 10) (.k (.int .i64 4))),zM 6 11]
 (.cond (.t 6) (zS [zK 2 (.int .i64 4)]
 .ret)
 .skip)))))
 (zS [zM 12 0,zM 13 0,zU 14 13,zF 15 0 14,zL 16 15,zC 17 (.f 106) [.t 16,(.k (.slice none 0 0))],zU 18 12,zF 19 0 18,zT 1 19 17]
 (zS [zM 20 0,zU 21 20,zF 22 1 21,zL 23 22,zO 24 (.bin .add (.t 23) (.k (.int .i64 1))),zU 25 20,zF 26 1 25,zT 1 26 24]
 (zS [zK 2 (.int .i64 0)]
 .ret)))))
def a158:AF:=⟨27,[.t 2],.code b158,none⟩
def b159:AC:=
 (zS [zK 2 (.int .i64 0)]
 (zS [zM 6 0,zC 7 (.f 214) [.t 6],zM 5 7,zO 8 (.extract (.t 5) 0),zO 9 (.extract (.t 5) 1),zM 3 8,zM 4 9]
 (zS [zM 10 4,zM 2 10]
 .ret)))
def a159:AF:=⟨11,[.t 2],.code b159,none⟩
def b160:AC:=
 (zS [zK 2 (.int .i64 0)]
 (zS [zM 9 0,zC 10 (.f 214) [.t 9],zM 8 10,zO 11 (.extract (.t 8) 0),zO 12 (.extract (.t 8) 1),zM 3 11,zM 4 12]
 (.seq (zS [zM 13 4,zO 14 (.bin .neq (.t 13) (.k (.int .i64 0)))]
 (.cond (.t 14) (zS [zM 15 4,zM 2 15]
 .ret)
 .skip))
 (zS [zM 16 0,zU 17 16,zF 18 0 17,zL 19 18,zU 20 19,zF 21 0 20,zL 22 21,zM 5 22]
 (.seq (zS [zM 23 3,zE 24 23,zK 25 (.int .i64 0)]
 (.block 0 (.loop (zS [zB 26 .lss 25 24]
  (.seq (.cond (.t 26) .skip
  (.exit 0))
  (.seq (.block 1 (zS [zI 27 2 23 25,zO 28 (.loadN 2 (.t 27)),zO 7 (.alloc 104 [(.int .i64 0),(.int .u64 0)]),zT 2 7 28]
  (.reg [zM 29 5,zO 30 (.loadN 2 (.t 7)),zC 31 (.f 215) [.t 29,.t 30],zM 5 31])))
  (.reg [zO 32 (.bin .add (.t 25) (.k (.int .i64 1))),zM 25 32])))))))
 (zS [zM 33 0,zM 34 0,zU 35 34,zF 36 0 35,zL 37 36,zU 38 37,zF 39 1 38,zL 40 39,zM 41 5,zC 42 (.f 106) [.t 40,.t 41],zU 43 33,zF 44 0 43,zT 1 44 42]
 (zS [zK 2 (.int .i64 0)]
 .ret)))))))
def a160:AF:=⟨45,[.t 2],.code b160,none⟩
def b161:AC:=
 (zS [zK 6 (.int .i64 0)]
 (.seq (.block 0 (zS [zM 10 0,zO 11 (.eq false .ptr (.t 10) (.k (.pointer none))),zM 9 11]
 (.cond (.t 9) (zS [zK 6 (.int .i64 1)]
 .ret)
 (zS [zM 13 1,zO 14 (.bin .lss (.t 13) (.k (.int .i64 0))),zM 15 14,zV 16 1 15 false,zG 17 (.bin .geq (.t 16) (.k (.int .i64 12))) 15 false,zO 18 (.pick (.t 15) (.k (.bool true)) (.t 17)),zM 12 18]
 (.cond (.t 12) (zS [zK 6 (.int .i64 2)]
 .ret)
 (zS [zM 20 2,zC 21 (.f 43) [.t 20],zO 22 (.un .not (.t 21)),zM 19 22]
 (.cond (.t 19) (zS [zK 6 (.int .i64 3)]
 .ret)
 .skip)))))))
 (.seq (zS [zM 24 0,zU 25 24,zF 26 0 25,zL 27 26,zU 28 27,zF 29 0 28,zL 30 29,zM 31 1,zC 32 (.f 164) [.t 30,.t 31],zM 23 32,zO 33 (.extract (.t 23) 0),zO 34 (.extract (.t 23) 1),zM 7 33,zM 8 34]
 (zS [zM 35 8,zO 36 (.un .not (.t 35)),zM 37 36,zV 38 0 37 true,⟨some 39,(.call (.f 216) [.t 38]),(some (37,true))⟩,zG 40 (.bin .geq (.t 39) (.k (.int .i64 16))) 37 true,zO 41 (.pick (.t 37) (.t 40) (.k (.bool false)))]
 (.cond (.t 41) (zS [zK 6 (.int .i64 4)]
 .ret)
 .skip)))
 (.seq (.dreg (zQ (zM 42 0) (zQ (zM 43 0) (zQ (zU 44 43) (zQ (zF 45 0 44) (zQ (zL 46 45) (zQ (zU 47 46) (zQ (zF 48 1 47) (zQ (zL 49 48) (zQ (zM 50 0) (zQ (zU 51 50) (zQ (zF 52 0 51) (zQ (zL 53 52) (zQ (zU 54 53) (zQ (zF 55 0 54) (zQ (zL 56 55) (zQ (zM 57 1) (zQ (zM 58 2) (zQ (zO 59 (.build [(.int .i64 0),(.int .u64 0)] [(0,1,(.t 57)),(1,1,(.t 58))])) (.loud (zC 60 (.f 215) [.t 56,.t 59]) [zL 49 48,zL 46 45] (.loud (zC 61 (.f 106) [.t 49,.t 60]) [] (zQ (zU 62 42) (zQ (zF 63 0 62) (.loud (zT 1 63 61) [] .nil))))))))))))))))))))))))
 (zS [zK 6 (.int .i64 0)]
 .ret)))))
def a161:AF:=⟨64,[.t 6],.code b161,none⟩
def b162:AC:=
 (.reg [zM 2 0,zO 3 (.build [(.int .u8 0),(.int .i64 0),(.int .u64 0)] []),zU 4 2,zF 5 5 4,zT 3 5 3])
def a162:AF:=⟨6,[],.code b162,none⟩
def b163:AC:=
 (zS [zO 1 (.box 164 (.t 0)),zK 2 .nilFunc]
 (zS [zO 3 (.mkfunc 217 [] [.t 1]),zM 2 3]
 .ret))
def a163:AF:=⟨4,[.t 2],.code b163,none⟩
def b164:AC:=
 (zS [zK 4 (.int .u64 0),zK 5 (.bool false)]
 (.seq (zS [zM 8 0,zE 9 8,zK 10 (.int .i64 0)]
 (.block 0 (.loop (zS [zB 11 .lss 10 9]
  (.seq (.cond (.t 11) .skip
  (.exit 0))
  (.seq (.block 1 (zS [zI 12 2 8 10,zO 13 (.loadN 2 (.t 12)),zO 7 (.alloc 104 [(.int .i64 0),(.int .u64 0)]),zT 2 7 13]
  (zS [zF 14 0 7,zL 15 14,zM 16 1,zB 17 .eql 15 16]
  (.cond (.t 17) (zS [zF 18 1 7,zL 19 18,zM 4 19,zK 5 (.bool true)]
  .ret)
  .skip))))
  (.reg [zO 20 (.bin .add (.t 10) (.k (.int .i64 1))),zM 10 20])))))))
 (zS [zK 4 (.int .u64 0),zK 5 (.bool false)]
 .ret)))
def a164:AF:=⟨21,[.t 4,.t 5],.code b164,none⟩
def b165:AC:=
 (zS [zO 4 (.box 3 (.t 1)),zK 6 (.int .i64 0)]
 (zS [zM 7 0,zM 8 2,zO 9 (.mkfunc 218 [] [.t 4]),zC 10 (.f 211) [.t 7,.t 8,.t 9],zM 6 10]
 .ret))
def a165:AF:=⟨11,[.t 6],.code b165,none⟩
def b166:AC:=
 (zS [zM 8 1,zO 9 (.bin .add (.t 8) (.k (.int .i64 1))),zM 6 9]
 (.block 0 (.loop (.seq (zS [zM 10 6,zM 11 2,zB 12 .lss 10 11]
  (.cond (.t 12) .skip
  (.exit 0)))
  (.seq (.block 1 (zS [zM 15 6,zM 7 15]
  (.block 2 (.loop (.seq (.seq (.dreg (zQ (zM 16 7) (zQ (zM 17 1) (zQ (zB 18 .gtr 16 17) (zQ (zM 19 18) (zQ (zV 20 0 19 true) (zQ (zV 21 7 19 true) (zQ (zG 22 (.iaddrS 1 (.t 20) (.t 21)) 19 true) (zQ (zG 23 (.load (.t 22)) 19 true) (zQ (zV 24 0 19 true) (zQ (zV 25 7 19 true) (zQ (zG 26 (.bin .sub (.t 25) (.k (.int .i64 1))) 19 true) (zQ (zG 27 (.iaddrS 1 (.t 24) (.t 26)) 19 true) (zQ (zG 28 (.load (.t 27)) 19 true) (.loud ⟨some 29,(.call (.f 172) [.t 23,.t 28]),(some (19,true))⟩ [] (zQ (zO 30 (.pick (.t 19) (.t 29) (.k (.bool false)))) .nil))))))))))))))))
   (.cond (.t 30) .skip
   (.exit 2)))
   (.seq (.block 3 (.dreg (zQ (zM 33 0) (zQ (zM 34 7) (zQ (zM 35 0) (zQ (zM 36 7) (zQ (zO 37 (.bin .sub (.t 36) (.k (.int .i64 1)))) (zQ (zM 38 0) (zQ (zM 39 7) (zQ (zO 40 (.bin .sub (.t 39) (.k (.int .i64 1)))) (zQ (zI 41 1 38 40) (zQ (zL 42 41) (zQ (zM 43 0) (zQ (zM 44 7) (zQ (zI 45 1 43 44) (zQ (zL 46 45) (zQ (zI 47 1 33 34) (.loud (zT 1 47 42) [] (zQ (zI 48 1 35 37) (.loud (zT 1 48 46) [] .nil))))))))))))))))))))
   (.reg [zM 31 7,zO 32 (.bin .sub (.t 31) (.k (.int .i64 1))),zM 7 32])))))))
  (.reg [zM 13 6,zO 14 (.bin .add (.t 13) (.k (.int .i64 1))),zM 6 14]))))))
def a166:AF:=⟨49,[],.code b166,none⟩
end YtapbabkndhaemaaGreat
end Go.Proofs
