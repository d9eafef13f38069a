/-
  THE FUNCTIONS of this seat in their plain form, and that each is the loaded one's.
-/
import Derived.Test.YtnemoimbeefngaaGreatProg
import Derived.Test.YtnemoimbeefngaaGreatPA2
import Derived.Laws.Externs

set_option maxHeartbeats 32000000
set_option maxRecDepth 100000
namespace Go.Proofs
namespace YtnemoimbeefngaaGreat
open Go.Abs
abbrev zM (d s:Nat):AIns:=⟨some d,.op (.mv (.t s)),none⟩
abbrev zK (d:Nat) (v:Value):AIns:=⟨some d,.op (.mv (.k v)),none⟩
abbrev zO (d:Nat) (o:AOp):AIns:=⟨some d,.op o,none⟩
abbrev zG (d:Nat) (o:AOp) (g:Nat) (b:Bool):AIns:=⟨some d,.op o,some (g,b)⟩
abbrev zN (o:AOp):AIns:=⟨none,.op o,none⟩
abbrev zC (d:Nat) (f:Opd) (l:List Opd):AIns:=⟨some d,.call f l,none⟩
abbrev zS (l:List AIns) (t:AC):AC:=.seq (.reg l) t
abbrev zL (d a:Nat):AIns:=⟨some d,.op (.load (.t a)),none⟩
abbrev zF (d k a:Nat):AIns:=⟨some d,.op (.faddr k (.t a)),none⟩
abbrev zE (d a:Nat):AIns:=⟨some d,.op (.lenS (.t a)),none⟩
abbrev zB (d:Nat) (o:BinOp) (a b:Nat):AIns:=⟨some d,.op (.bin o (.t a) (.t b)),none⟩
abbrev zI (d s a b:Nat):AIns:=⟨some d,.op (.iaddrS s (.t a) (.t b)),none⟩
abbrev zT (s a b:Nat):AIns:=⟨none,.op (.store s (.t a) (.t b)),none⟩
abbrev zU (d a:Nat):AIns:=⟨some d,.op (.nilchk (.t a)),none⟩
abbrev zQ (i:AIns) (t:DT):DT:=.quiet i t
abbrev zV (d a g:Nat) (b:Bool):AIns:=⟨some d,.op (.mv (.t a)),some (g,b)⟩
attribute [simp] zM zK zO zG zN zC zS zL zF zE zB zI zT zU zQ zV
theorem okZ {P:Program} {ext:FuncId->Option Ext1} {f:FuncId} {fn:Func} {af:AF} (h1:P.funcs[f]?=some fn) (h2:fn.ntmps=af.n:=by kernel_rfl) (h3:(fn.body.bind fun c=> zPa P ext fn.ntmps c)=some (af.body,af.rcv):=by kernel_rfl)
 (h4 : zD1 P fn.ntmps fn.results.toList = some af.res := by kernel_rfl) (h5 : (fn.name == "runtime.NumGoroutine") = false := by kernel_rfl) : AFOk P ext f af := .of h1 h2 h3 h4 h5
def ext:FuncId->Option Ext1:=fun g=> if g=149 then some .frombits else none
def b3:AC:=
 (zS [zK 2 (.bool false)]
 (zS [zM 6 0,zC 7 (.f 8) [.t 6],zM 3 7]
 (.seq (zS [zC 8 (.f 9) [],zO 9 (.un .not (.t 8)),zM 10 9,zV 11 3 10 false,zG 12 (.eq false .ptr (.t 11) (.k (.pointer none))) 10 false,zO 13 (.pick (.t 10) (.k (.bool true)) (.t 12))]
 (.cond (.t 13) (zS [zK 2 (.bool false)]
 .ret)
 .skip))
 (zS [zM 15 3,zC 16 (.f 11) [.t 15],zC 17 (.f 12) [],zM 18 3,zC 19 (.f 13) [.t 18],zM 20 3,zC 21 (.f 14) [.t 20],zC 22 (.f 10) [.t 16,.t 17,.t 19,.t 21],zM 14 22,zO 23 (.extract (.t 14) 0),zO 24 (.extract (.t 14) 1),zM 4 23,zM 5 24]
 (zS [zM 25 5,zO 26 (.bin .eql (.t 25) (.k (.int .i64 0))),zM 2 26]
 .ret)))))
def a3:AF:=⟨27,[.t 2],.code b3,none⟩
def b4:AC:=
 (zS [zK 2 (.bool false)]
 (zS [zM 6 0,zC 7 (.f 8) [.t 6],zM 3 7]
 (.seq (zS [zC 8 (.f 9) [],zO 9 (.un .not (.t 8)),zM 10 9,zV 11 3 10 false,zG 12 (.eq false .ptr (.t 11) (.k (.pointer none))) 10 false,zO 13 (.pick (.t 10) (.k (.bool true)) (.t 12))]
 (.cond (.t 13) (zS [zK 2 (.bool false)]
 .ret)
 .skip))
 (zS [zM 15 3,zC 16 (.f 11) [.t 15],zC 17 (.f 12) [],zM 18 3,zC 19 (.f 13) [.t 18],zM 20 3,zC 21 (.f 14) [.t 20],zC 22 (.f 15) [.t 16,.t 17,.t 19,.t 21],zM 14 22,zO 23 (.extract (.t 14) 0),zO 24 (.extract (.t 14) 1),zM 4 23,zM 5 24]
 (zS [zM 25 5,zO 26 (.bin .eql (.t 25) (.k (.int .i64 0))),zM 27 26,zV 28 4 27 true,zG 29 (.lenS (.t 28)) 27 true,zV 30 3 27 true,⟨some 31,(.call (.f 16) [.t 30]),(some (27,true))⟩,zG 32 (.lenS (.t 31)) 27 true,zG 33 (.bin .eql (.t 29) (.t 32)) 27 true,zO 34 (.pick (.t 27) (.t 33) (.k (.bool false))),zM 35 34,zV 36 3 35 true,⟨some 37,(.call (.f 17) [.t 36]),(some (35,true))⟩,zG 38 (.bin .rem (.t 37) (.k (.int .u64 2))) 35 true,zG 39 (.bin .eql (.t 38) (.k (.int .u64 1))) 35 true,zV 40 39 35 true,zV 41 4 40 false,zV 42 3 40 false,⟨some 43,(.call (.f 16) [.t 42]),(some (40,false))⟩,⟨some 44,(.call (.f 18) [.t 41,.t 43]),(some (40,false))⟩,zG 45 (.pick (.t 40) (.k (.bool true)) (.t 44)) 35 true,zO 46 (.pick (.t 35) (.t 45) (.k (.bool false))),zM 2 46]
 .ret)))))
def a4:AF:=⟨47,[.t 2],.code b4,none⟩
def b5:AC:=
 (zS [zK 2 (.bool false)]
 (zS [zM 7 0,zC 8 (.f 19) [.t 7],zM 6 8,zO 9 (.extract (.t 6) 0),zO 10 (.extract (.t 6) 1),zO 11 (.extract (.t 6) 2),zM 3 9,zM 4 10,zM 5 11]
 (zS [zC 12 (.f 9) [],zM 13 12,zV 14 5 13 true,zO 15 (.pick (.t 13) (.t 14) (.k (.bool false))),zM 16 15,zV 17 3 16 true,zV 18 4 16 true,⟨some 19,(.call (.f 20) [.t 17,.t 18]),(some (16,true))⟩,zO 20 (.pick (.t 16) (.t 19) (.k (.bool false))),zM 2 20]
 .ret)))
def a5:AF:=⟨21,[.t 2],.code b5,none⟩
def b6:AC:=
 (zS [zK 4 (.bool false)]
 (zS [zM 12 0,zC 13 (.f 19) [.t 12],zM 11 13,zO 14 (.extract (.t 11) 0),zO 15 (.extract (.t 11) 1),zO 16 (.extract (.t 11) 2),zM 5 14,zM 6 15,zM 7 16]
 (.seq (zS [zC 17 (.f 9) [],zO 18 (.un .not (.t 17)),zM 19 18,zV 20 7 19 false,zG 21 (.un .not (.t 20)) 19 false,zO 22 (.pick (.t 19) (.k (.bool true)) (.t 21))]
 (.cond (.t 22) (zS [zK 4 (.bool false)]
 .ret)
 .skip))
 (zS [zM 23 5,zC 24 (.f 21) [.t 23],zM 25 6,zC 26 (.f 22) [.t 25],zM 8 24,zM 9 26]
 (.seq (zS [zK 10 (.int .i64 0)]
 (.block 0 (.loop (.seq (zS [zM 27 10,zM 28 1,zE 29 28,zB 30 .lss 27 29,zM 31 30,zV 32 10 31 true,zG 33 (.bin .lss (.t 32) (.k (.int .i64 30))) 31 true,zO 34 (.pick (.t 31) (.t 33) (.k (.bool false)))]
  (.cond (.t 34) .skip
  (.exit 0)))
  (.seq (.block 1 (zS [zM 37 8,zM 38 9,zM 39 1,zM 40 10,zI 41 5 39 40,zO 42 (.loadN 5 (.t 41)),zC 43 (.f 23) [.t 37,.t 38,.t 42],zO 44 (.un .not (.t 43))]
  (.cond (.t 44) (zS [zK 4 (.bool false)]
  .ret)
  .skip)))
  (.reg [zM 35 10,zO 36 (.bin .add (.t 35) (.k (.int .i64 1))),zM 10 36]))))))
 (zS [zM 45 5,zM 46 6,zC 47 (.f 20) [.t 45,.t 46],zM 48 47,zV 49 8 48 true,zV 50 9 48 true,⟨some 51,(.call (.f 20) [.t 49,.t 50]),(some (48,true))⟩,zO 52 (.pick (.t 48) (.t 51) (.k (.bool false))),zM 4 52]
 .ret))))))
def a6:AF:=⟨53,[.t 4],.code b6,none⟩
def b8:AC:=
 (zS [zK 2 (.pointer none)]
 (zS [zC 6 (.f 12) [],zC 7 (.f 35) [.t 6],zM 3 7]
 (.seq (zS [zK 4 (.int .i64 0)]
 (.block 0 (.loop (.seq (zS [zM 8 4,zM 9 0,zE 10 9,zB 11 .lss 8 10,zM 12 11,zV 13 4 12 true,zG 14 (.bin .lss (.t 13) (.k (.int .i64 120))) 12 true,zO 15 (.pick (.t 12) (.t 14) (.k (.bool false))),zM 16 15,zV 17 3 16 true,zG 18 (.eq true .ptr (.t 17) (.k (.pointer none))) 16 true,zO 19 (.pick (.t 16) (.t 18) (.k (.bool false)))]
  (.cond (.t 19) .skip
  (.exit 0)))
  (.seq (.block 1 (zS [zM 22 0,zM 23 4,zI 24 5 22 23,zO 25 (.loadN 5 (.t 24)),zO 5 (.alloc 53 [(.int .i64 0),(.int .i64 0),(.int .u8 0),(.int .i64 0),(.int .u64 0)]),zT 5 5 25]
  (zS [zF 26 0 5,zL 27 26]
  (.block 2 (zS [zO 29 (.bin .eql (.t 27) (.k (.int .i64 0))),zM 28 29]
  (.cond (.t 28) (.reg [zM 30 3,zF 31 1 5,zL 32 31,zC 33 (.f 24) [.t 30,.t 32]])
  (zS [zO 35 (.bin .eql (.t 27) (.k (.int .i64 1))),zM 34 35]
  (.cond (.t 34) (.reg [zM 36 3,zF 37 1 5,zL 38 37,zF 39 2 5,zO 40 (.loadN 3 (.t 39)),zC 41 (.f 27) [.t 36,.t 38,.t 40]])
  (zS [zO 43 (.bin .eql (.t 27) (.k (.int .i64 2))),zM 42 43]
  (.cond (.t 42) (.reg [zM 44 3,zF 45 1 5,zL 46 45,zC 47 (.f 28) [.t 44,.t 46]])
  (zS [zO 49 (.bin .eql (.t 27) (.k (.int .i64 3))),zM 48 49]
  (.cond (.t 48) (.reg [zM 50 3,zF 51 1 5,zL 52 51,zC 53 (.f 29) [.t 50,.t 52]])
  .skip))))))))))))
  (.reg [zM 20 4,zO 21 (.bin .add (.t 20) (.k (.int .i64 1))),zM 4 21]))))))
 (zS [zM 54 3,zM 2 54]
 .ret))))
def a8:AF:=⟨55,[.t 2],.code b8,none⟩
def b9:AC:=
 (zS [zK 0 (.bool false)]
 (zS [zC 8 (.f 12) [],zC 9 (.f 35) [.t 8],zM 1 9]
 (zS [zM 11 1,zC 12 (.f 24) [.t 11,(.k (.int .i64 1))],zM 10 12,zO 13 (.extract (.t 10) 0),zO 14 (.extract (.t 10) 1),zM 2 13,zM 3 14]
 (zS [zM 15 1,zO 16 (.build [(.int .u8 0),(.int .i64 0),(.int .u64 0)] [(0,1,(.k (.int .u8 1))),(1,1,(.k (.int .i64 1)))]),zC 17 (.f 27) [.t 15,(.k (.int .i64 1)),.t 16],zM 4 17]
 (zS [zM 18 1,zC 19 (.f 28) [.t 18,(.k (.int .i64 1))]]
 (zS [zM 20 1,zC 21 (.f 28) [.t 20,(.k (.int .i64 1))],zO 5 (.alloc 63 [(.bool false),(.int .u64 0),(.bool false),(.int .i64 0),(.bool false),(.int .u8 0),(.int .i64 0)]),zT 7 5 21]
 (zS [zM 22 1,zO 23 (.build [(.int .u8 0),(.int .i64 0),(.int .u64 0)] [(0,1,(.k (.int .u8 6)))]),zC 24 (.f 27) [.t 22,(.k (.int .i64 1)),.t 23],zM 6 24]
 (zS [zM 25 1,zC 26 (.f 28) [.t 25,(.k (.int .i64 1))],zO 7 (.alloc 63 [(.bool false),(.int .u64 0),(.bool false),(.int .i64 0),(.bool false),(.int .u8 0),(.int .i64 0)]),zT 7 7 26]
 (zS [zM 27 2,zO 28 (.bin .eql (.t 27) (.k (.int .i64 0))),zM 29 28,zV 30 3 29 true,zG 31 (.bin .eql (.t 30) (.k (.int .i64 0))) 29 true,zO 32 (.pick (.t 29) (.t 31) (.k (.bool false))),zM 33 32,zV 34 4 33 true,zG 35 (.bin .eql (.t 34) (.k (.int .i64 0))) 33 true,zO 36 (.pick (.t 33) (.t 35) (.k (.bool false))),zM 37 36,zV 38 6 37 true,zG 39 (.bin .eql (.t 38) (.k (.int .i64 0))) 37 true,zO 40 (.pick (.t 37) (.t 39) (.k (.bool false))),zM 41 40,zG 42 (.faddr 0 (.t 5)) 41 true,zG 43 (.load (.t 42)) 41 true,zO 44 (.pick (.t 41) (.t 43) (.k (.bool false))),zM 45 44,zG 46 (.faddr 1 (.t 5)) 45 true,zG 47 (.load (.t 46)) 45 true,zG 48 (.bin .eql (.t 47) (.k (.int .u64 4607182418800017408))) 45 true,zO 49 (.pick (.t 45) (.t 48) (.k (.bool false))),zM 50 49,zG 51 (.faddr 4 (.t 7)) 50 true,zG 52 (.load (.t 51)) 50 true,zO 53 (.pick (.t 50) (.t 52) (.k (.bool false))),zM 54 53,zG 55 (.faddr 5 (.t 7)) 54 true,zG 56 (.load (.t 55)) 54 true,zG 57 (.bin .eql (.t 56) (.k (.int .u8 0))) 54 true,zO 58 (.pick (.t 54) (.t 57) (.k (.bool false))),zM 59 58,zV 60 1 59 true,⟨some 61,(.call (.f 11) [.t 60]),(some (59,true))⟩,zG 62 (.lenS (.t 61)) 59 true,zG 63 (.bin .eql (.t 62) (.k (.int .i64 4))) 59 true,zO 64 (.pick (.t 59) (.t 63) (.k (.bool false))),zM 0 64]
 .ret)))))))))
def a9:AF:=⟨65,[.t 0],.code b9,none⟩
def b11:AC:=
 (zS [zK 2 (.slice none 0 0)]
 (.seq (zS [zM 3 0,zO 4 (.eq false .ptr (.t 3) (.k (.pointer none)))]
 (.cond (.t 4) (zS [zK 2 (.slice none 0 0)]
 .ret)
 .skip))
 (zS [zM 5 0,zU 6 5,zF 7 3 6,zL 8 7,zC 9 (.f 42) [.t 8],zM 2 9]
 .ret)))
def a11:AF:=⟨10,[.t 2],.code b11,none⟩
def b12:AC:=
 (zS [zK 0 (.slice none 0 0)]
 (zS [zO 1 (.bslice 49 [(.int .u64 0),(.int .u64 0),(.int .u64 0),(.int .u64 0),(.int .u64 0)] 5 [(0,1,(.k (.int .u64 0))),(1,1,(.k (.int .u64 4607182418800017408))),(2,1,(.k (.int .u64 9221120237041090560))),(3,1,(.k (.int .u64 9223372036854775808))),(4,1,(.k (.int .u64 0)))]),zM 0 1]
 .ret))
def a12:AF:=⟨2,[.t 0],.code b12,none⟩
def b13:AC:=
 (zS [zO 1 (.box 23 (.t 0)),zK 2 (.slice none 0 0)]
 (.seq (zS [zL 5 1,zO 6 (.eq false .ptr (.t 5) (.k (.pointer none)))]
 (.cond (.t 6) (zS [zK 2 (.slice none 0 0)]
 .ret)
 .skip))
 (zS [zL 7 1,zU 8 7,zF 9 4 8,zL 10 9,zE 11 10,zO 12 (.mkslice 3 [(.int .i64 0)] 8 (.t 11) (.t 11)),zM 3 12]
 (.seq (zS [zM 13 3,zE 14 13,zK 15 (.int .i64 0)]
 (.block 0 (.loop (zS [zB 16 .lss 15 14]
  (.seq (.cond (.t 16) .skip
  (.exit 0))
  (.seq (.block 1 (zS [zM 17 15,zM 4 17]
  (.reg [zM 18 3,zM 19 4,zM 20 4,zI 21 1 18 19,zT 1 21 20])))
  (.reg [zO 22 (.bin .add (.t 15) (.k (.int .i64 1))),zM 15 22])))))))
 (zS [zM 23 3,zO 24 (.mkfunc 44 [] [.t 1]),zC 25 (.f 43) [.t 23,.t 24]]
 (zS [zM 26 3,zM 2 26]
 .ret))))))
def a13:AF:=⟨27,[.t 2],.code b13,none⟩
def b14:AC:=
 (zS [zK 2 (.slice none 0 0)]
 (.scope (zS [zK 3 (.slice none 0 0)]
 (.seq (.label 0)
 (.seq (zS [zK 6 (.int .i64 0)]
 (.block 0 (.loop (zS [zO 7 (.bin .lss (.t 6) (.k (.int .i64 4)))]
  (.seq (.cond (.t 7) .skip
  (.exit 0))
  (.seq (.block 1 (zS [zM 8 6,zM 4 8]
  (zS [zM 9 0,zM 10 4,zC 11 (.f 46) [.t 9,.t 10],zM 5 11]
  (.seq (zS [zM 12 5,zO 13 (.eq false .ptr (.t 12) (.k (.pointer none))),zM 14 13,zV 15 5 14 false,zG 16 (.nilchk (.t 15)) 14 false,zG 17 (.faddr 12 (.t 16)) 14 false,zG 18 (.load (.t 17)) 14 false,zG 19 (.un .not (.t 18)) 14 false,zO 20 (.pick (.t 14) (.k (.bool true)) (.t 19))]
  (.cond (.t 20) (.exit 1)
  .skip))
  (.reg [zM 21 3,zM 22 5,zU 23 22,zF 24 2 23,zL 25 24,zO 26 (.bslice 3 [(.int .i64 0)] 1 [(0,1,(.t 25))]),zO 27 (.append 3 1 8 (.t 21) (.t 26)),zM 3 27])))))
  (.reg [zO 28 (.bin .add (.t 6) (.k (.int .i64 1))),zM 6 28])))))))
 (zS [zM 29 3,zC 30 (.f 47) [.t 29]]
 (zS [zM 31 3,zM 2 31]
 .ret)))))))
def a14:AF:=⟨32,[.t 2],.code b14,none⟩
def b16:AC:=
 (zS [zK 2 (.slice none 0 0)]
 (.seq (zS [zM 3 0,zO 4 (.eq false .ptr (.t 3) (.k (.pointer none)))]
 (.cond (.t 4) (zS [zK 2 (.slice none 0 0)]
 .ret)
 .skip))
 (zS [zM 5 0,zU 6 5,zF 7 1 6,zL 8 7,zC 9 (.f 48) [.t 8],zM 2 9]
 .ret)))
def a16:AF:=⟨10,[.t 2],.code b16,none⟩
def b17:AC:=
 (zS [zK 2 (.int .u64 0)]
 (.seq (zS [zM 3 0,zO 4 (.eq false .ptr (.t 3) (.k (.pointer none)))]
 (.cond (.t 4) (zS [zK 2 (.int .u64 0)]
 .ret)
 .skip))
 (zS [zM 5 0,zU 6 5,zF 7 0 6,zL 8 7,zC 9 (.f 49) [.t 8],zM 2 9]
 .ret)))
def a17:AF:=⟨10,[.t 2],.code b17,none⟩
def b18:AC:=
 (zS [zK 4 (.bool false)]
 (.seq (zS [zM 6 0,zE 7 6,zM 8 1,zE 9 8,zB 10 .neq 7 9]
 (.cond (.t 10) (zS [zK 4 (.bool false)]
 .ret)
 .skip))
 (.seq (zS [zK 5 (.int .i64 0)]
 (.block 0 (.loop (.seq (zS [zM 11 5,zM 12 0,zE 13 12,zB 14 .lss 11 13]
  (.cond (.t 14) .skip
  (.exit 0)))
  (.seq (.block 1 (.seq (.dreg (zQ (zM 17 0) (zQ (zM 18 5) (zQ (zI 19 1 17 18) (zQ (zL 20 19) (zQ (zM 21 1) (zQ (zM 22 5) (zQ (zI 23 1 21 22) (zQ (zL 24 23) (zQ (zB 25 .neq 20 24) .nil))))))))))
  (.cond (.t 25) (zS [zK 4 (.bool false)]
  .ret)
  .skip)))
  (.reg [zM 15 5,zO 16 (.bin .add (.t 15) (.k (.int .i64 1))),zM 5 16]))))))
 (zS [zK 4 (.bool true)]
 .ret))))
def a18:AF:=⟨26,[.t 4],.code b18,none⟩
def b19:AC:=
 (zS [zK 2 (.pointer none),zK 3 (.pointer none),zK 4 (.bool false)]
 (zS [zC 8 (.f 12) [],zC 9 (.f 35) [.t 8],zC 10 (.f 12) [],zC 11 (.f 50) [.t 10],zM 5 9,zM 6 11]
 (.seq (zS [zM 12 5,zO 13 (.eq false .ptr (.t 12) (.k (.pointer none))),zM 14 13,zV 15 6 14 false,zG 16 (.eq false .ptr (.t 15) (.k (.pointer none))) 14 false,zO 17 (.pick (.t 14) (.k (.bool true)) (.t 16))]
 (.cond (.t 17) (zS [zK 2 (.pointer none),zK 3 (.pointer none),zK 4 (.bool false)]
 .ret)
 .skip))
 (.seq (zS [zK 7 (.int .i64 0)]
 (.block 0 (.loop (.seq (zS [zM 18 7,zM 19 0,zE 20 19,zB 21 .lss 18 20,zM 22 21,zV 23 7 22 true,zG 24 (.bin .lss (.t 23) (.k (.int .i64 120))) 22 true,zO 25 (.pick (.t 22) (.t 24) (.k (.bool false)))]
  (.cond (.t 25) .skip
  (.exit 0)))
  (.seq (.block 1 (zS [zM 28 5,zM 29 6,zM 30 0,zM 31 7,zI 32 5 30 31,zO 33 (.loadN 5 (.t 32)),zC 34 (.f 23) [.t 28,.t 29,.t 33],zO 35 (.un .not (.t 34))]
  (.cond (.t 35) (zS [zM 36 5,zM 37 6,zM 2 36,zM 3 37,zK 4 (.bool false)]
  .ret)
  .skip)))
  (.reg [zM 26 7,zO 27 (.bin .add (.t 26) (.k (.int .i64 1))),zM 7 27]))))))
 (zS [zM 38 5,zM 39 6,zM 2 38,zM 3 39,zK 4 (.bool true)]
 .ret)))))
def a19:AF:=⟨40,[.t 2,.t 3,.t 4],.code b19,none⟩
def b20:AC:=
 (zS [zK 4 (.bool false)]
 (.seq (zS [zK 5 (.int .i64 (-1))]
 (.block 0 (.loop (.seq (zS [zM 15 5,zO 16 (.bin .leq (.t 15) (.k (.int .i64 4)))]
  (.cond (.t 16) .skip
  (.exit 0)))
  (.seq (.block 1 (zS [zM 20 0,zM 21 5,zC 22 (.f 25) [.t 20,.t 21],zM 19 22,zO 23 (.extract (.t 19) 0),zO 24 (.extract (.t 19) 1),zM 6 23,zM 7 24]
  (zS [zM 26 1,zM 27 5,zC 28 (.f 51) [.t 26,.t 27],zM 25 28,zO 29 (.extract (.t 25) 0),zO 30 (.extract (.t 25) 1),zM 8 29,zM 9 30]
  (zS [zM 32 0,zM 33 5,zC 34 (.f 26) [.t 32,.t 33],zM 31 34,zO 35 (.extract (.t 31) 0),zO 36 (.extract (.t 31) 1),zO 10 (.alloc 51 [(.int .u8 0),(.int .i64 0),(.int .u64 0)]),zT 3 10 35,zM 11 36]
  (zS [zM 38 1,zM 39 5,zC 40 (.f 52) [.t 38,.t 39],zM 37 40,zO 41 (.extract (.t 37) 0),zO 42 (.extract (.t 37) 1),zO 12 (.alloc 51 [(.int .u8 0),(.int .i64 0),(.int .u64 0)]),zT 3 12 41,zM 13 42]
  (zS [zM 43 6,zM 44 8,zB 45 .neq 43 44,zM 46 45,zV 47 7 46 false,zV 48 9 46 false,zG 49 (.eq true .bool (.t 47) (.t 48)) 46 false,zO 50 (.pick (.t 46) (.k (.bool true)) (.t 49)),zM 51 50,zG 52 (.loadN 3 (.t 10)) 51 false,zG 53 (.loadN 3 (.t 12)) 51 false,zG 54 (.eq true (.st [(0,1,false,.int),(1,1,false,.int),(2,1,false,.int)]) (.t 52) (.t 53)) 51 false,zO 55 (.pick (.t 51) (.k (.bool true)) (.t 54)),zM 56 55,zV 57 11 56 false,zV 58 13 56 false,zG 59 (.eq true .bool (.t 57) (.t 58)) 56 false,zO 60 (.pick (.t 56) (.k (.bool true)) (.t 59)),zM 61 60,zV 62 0 61 false,zV 63 5 61 false,⟨some 64,(.call (.f 31) [.t 62,.t 63]),(some (61,false))⟩,zV 65 1 61 false,zV 66 5 61 false,⟨some 67,(.call (.f 54) [.t 65,.t 66]),(some (61,false))⟩,⟨some 68,(.call (.f 53) [.t 64,.t 67]),(some (61,false))⟩,zG 69 (.un .not (.t 68)) 61 false,zO 70 (.pick (.t 61) (.k (.bool true)) (.t 69)),zM 71 70,zV 72 0 71 false,zV 73 5 71 false,⟨some 74,(.call (.f 32) [.t 72,.t 73]),(some (71,false))⟩,zV 75 1 71 false,zV 76 5 71 false,⟨some 77,(.call (.f 56) [.t 75,.t 76]),(some (71,false))⟩,⟨some 78,(.call (.f 55) [.t 74,.t 77]),(some (71,false))⟩,zG 79 (.un .not (.t 78)) 71 false,zO 80 (.pick (.t 71) (.k (.bool true)) (.t 79)),zM 81 80,zV 82 0 81 false,zV 83 5 81 false,⟨some 84,(.call (.f 33) [.t 82,.t 83]),(some (81,false))⟩,zV 85 1 81 false,zV 86 5 81 false,⟨some 87,(.call (.f 57) [.t 85,.t 86]),(some (81,false))⟩,zG 88 (.eq true .bool (.t 84) (.t 87)) 81 false,zO 89 (.pick (.t 81) (.k (.bool true)) (.t 88)),zM 90 89,zV 91 0 90 false,zV 92 5 90 false,⟨some 93,(.call (.f 34) [.t 91,.t 92]),(some (90,false))⟩,zV 94 1 90 false,zV 95 5 90 false,⟨some 96,(.call (.f 58) [.t 94,.t 95]),(some (90,false))⟩,zG 97 (.eq true .bool (.t 93) (.t 96)) 90 false,zO 98 (.pick (.t 90) (.k (.bool true)) (.t 97))]
  (.cond (.t 98) (zS [zK 4 (.bool false)]
  .ret)
  .skip)))))))
  (.reg [zM 17 5,zO 18 (.bin .add (.t 17) (.k (.int .i64 1))),zM 5 18]))))))
 (.seq (zS [zK 14 (.int .i64 (-1))]
 (.block 2 (.loop (.seq (zS [zM 99 14,zO 100 (.bin .lss (.t 99) (.k (.int .i64 20)))]
  (.cond (.t 100) .skip
  (.exit 2)))
  (.seq (.block 3 (zS [zM 103 0,zM 104 14,zC 105 (.f 30) [.t 103,.t 104],zM 106 1,zM 107 14,zC 108 (.f 59) [.t 106,.t 107],zB 109 .neq 105 108]
  (.cond (.t 109) (zS [zK 4 (.bool false)]
  .ret)
  .skip)))
  (.reg [zM 101 14,zO 102 (.bin .add (.t 101) (.k (.int .i64 1))),zM 14 102]))))))
 (zS [zM 110 0,zC 111 (.f 16) [.t 110],zM 112 1,zC 113 (.f 60) [.t 112],zC 114 (.f 18) [.t 111,.t 113],zM 115 114,zV 116 0 115 true,⟨some 117,(.call (.f 11) [.t 116]),(some (115,true))⟩,zV 118 1 115 true,⟨some 119,(.call (.f 62) [.t 118]),(some (115,true))⟩,⟨some 120,(.call (.f 61) [.t 117,.t 119]),(some (115,true))⟩,zO 121 (.pick (.t 115) (.t 120) (.k (.bool false))),zM 122 121,zV 123 0 122 true,⟨some 124,(.call (.f 13) [.t 123]),(some (122,true))⟩,zV 125 1 122 true,⟨some 126,(.call (.f 64) [.t 125]),(some (122,true))⟩,⟨some 127,(.call (.f 63) [.t 124,.t 126]),(some (122,true))⟩,zO 128 (.pick (.t 122) (.t 127) (.k (.bool false))),zM 129 128,zV 130 0 129 true,⟨some 131,(.call (.f 14) [.t 130]),(some (129,true))⟩,zV 132 1 129 true,⟨some 133,(.call (.f 65) [.t 132]),(some (129,true))⟩,⟨some 134,(.call (.f 63) [.t 131,.t 133]),(some (129,true))⟩,zO 135 (.pick (.t 129) (.t 134) (.k (.bool false))),zM 136 135,zV 137 0 136 true,⟨some 138,(.call (.f 17) [.t 137]),(some (136,true))⟩,zV 139 1 136 true,⟨some 140,(.call (.f 66) [.t 139]),(some (136,true))⟩,zG 141 (.bin .eql (.t 138) (.t 140)) 136 true,zO 142 (.pick (.t 136) (.t 141) (.k (.bool false))),zM 4 142]
 .ret))))
def a20:AF:=⟨143,[.t 4],.code b20,none⟩
def b23:AC:=
 (zS [zO 5 (.box 53 (.t 2)),zK 6 (.bool false)]
 (.seq (zS [zF 11 0 5,zL 12 11]
 (.block 0 (zS [zO 14 (.bin .eql (.t 12) (.k (.int .i64 0))),zM 13 14]
 (.cond (.t 13) (zS [zM 16 0,zF 17 1 5,zL 18 17,zC 19 (.f 24) [.t 16,.t 18],zM 15 19,zO 20 (.extract (.t 15) 0),zO 21 (.extract (.t 15) 1),zM 7 20,zM 8 21]
 (zS [zM 23 1,zF 24 1 5,zL 25 24,zC 26 (.f 75) [.t 23,.t 25],zM 22 26,zO 27 (.extract (.t 22) 0),zO 28 (.extract (.t 22) 1),zM 9 27,zM 10 28]
 (zS [zM 29 7,zM 30 9,zB 31 .eql 29 30,zM 32 31,zV 33 8 32 true,zV 34 10 32 true,zG 35 (.bin .eql (.t 33) (.t 34)) 32 true,zO 36 (.pick (.t 32) (.t 35) (.k (.bool false))),zM 6 36]
 .ret)))
 (zS [zO 38 (.bin .eql (.t 12) (.k (.int .i64 1))),zM 37 38]
 (.cond (.t 37) (.seq (.dreg (zQ (zM 39 0) (zQ (zF 40 1 5) (zQ (zL 41 40) (zQ (zF 42 2 5) (zQ (zO 43 (.loadN 3 (.t 42))) (zQ (zM 45 1) (zQ (zF 46 1 5) (zQ (zL 47 46) (zQ (zF 48 2 5) (zQ (zO 49 (.loadN 3 (.t 48))) (.loud (zC 44 (.f 27) [.t 39,.t 41,.t 43]) [zO 49 (.loadN 3 (.t 48)),zL 47 46] (.loud (zC 50 (.f 76) [.t 45,.t 47,.t 49]) [] (zQ (zB 51 .eql 44 50) (.loud (zM 6 51) [] .nil)))))))))))))))
 .ret)
 (zS [zO 53 (.bin .eql (.t 12) (.k (.int .i64 2))),zM 52 53]
 (.cond (.t 52) (.seq (.dreg (zQ (zM 54 0) (zQ (zF 55 1 5) (zQ (zL 56 55) (zQ (zM 58 1) (zQ (zF 59 1 5) (zQ (zL 60 59) (.loud (zC 57 (.f 28) [.t 54,.t 56]) [zL 60 59] (.loud (zC 61 (.f 77) [.t 58,.t 60]) [] (zQ (zO 62 (.eq false (.st [(0,1,false,.bool),(1,1,false,.int),(2,1,false,.bool),(3,1,false,.int),(4,1,false,.bool),(5,1,false,.int),(6,1,false,.int)]) (.t 57) (.t 61))) (.loud (zM 6 62) [] .nil)))))))))))
 .ret)
 (zS [zO 64 (.bin .eql (.t 12) (.k (.int .i64 3))),zM 63 64]
 (.cond (.t 63) (.seq (.dreg (zQ (zM 65 0) (zQ (zF 66 1 5) (zQ (zL 67 66) (zQ (zM 69 1) (zQ (zF 70 1 5) (zQ (zL 71 70) (.loud (zC 68 (.f 29) [.t 65,.t 67]) [zL 71 70] (.loud (zC 72 (.f 78) [.t 69,.t 71]) [] (zQ (zB 73 .eql 68 72) (.loud (zM 6 73) [] .nil)))))))))))
 .ret)
 .skip))))))))))
 (zS [zK 6 (.bool true)]
 .ret)))
def a23:AF:=⟨74,[.t 6],.code b23,none⟩
def b24:AC:=
 (zS [zK 4 (.int .i64 0),zK 5 (.int .i64 0)]
 (.seq (zS [zM 10 0,zM 11 1,zC 12 (.f 79) [.t 10,.t 11],zM 6 12]
 (zS [zM 13 6,zO 14 (.bin .neq (.t 13) (.k (.int .i64 0)))]
 (.cond (.t 14) (zS [zM 15 6,zK 4 (.int .i64 0),zM 5 15]
 .ret)
 .skip)))
 (zS [zM 16 0,zU 17 16,zF 18 4 17,zL 19 18,zE 20 19,zM 7 20]
 (.seq (.block 0 (zS [zM 22 0,zU 23 22,zF 24 2 23,zL 25 24,zM 26 1,zO 27 (.lookup false (.pointer none) false (.t 25) (.t 26)),zO 28 (.eq true .ptr (.t 27) (.k (.pointer none))),zM 21 28]
 (.cond (.t 21) (zS [zK 4 (.int .i64 0),zK 5 (.int .i64 8)]
 .ret)
 (zS [zM 30 7,zO 31 (.bin .geq (.t 30) (.k (.int .i64 64))),zM 29 31]
 (.cond (.t 29) (zS [zK 4 (.int .i64 0),zK 5 (.int .i64 4)]
 .ret)
 .skip)))))
 (zS [zM 33 0,zU 34 33,zF 35 0 34,zL 36 35,zC 37 (.f 80) [.t 36],zM 32 37,zO 38 (.extract (.t 32) 0),zO 39 (.extract (.t 32) 1),zM 8 38,zM 9 39]
 (.seq (zS [zM 40 9,zO 41 (.bin .neq (.t 40) (.k (.int .i64 0)))]
 (.cond (.t 41) (zS [zM 42 9,zK 4 (.int .i64 0),zM 5 42]
 .ret)
 .skip))
 (.seq (.dreg (zQ (zM 43 0) (zQ (zU 44 43) (zQ (zF 45 2 44) (zQ (zL 46 45) (zQ (zM 47 1) (zQ (zM 50 7) (zQ (zM 51 8) (.loud (zC 48 (.f 81) []) [zL 46 45] (.loud (zC 49 (.f 82) []) [zL 46 45] (zQ (zO 52 (.build [(.pointer none),(.pointer none),(.int .i64 0),(.int .u64 0),(.int .u8 0),(.int .i64 0),(.int .u64 0),(.int .i64 0),(.int .i64 0),(.int .i64 0),(.int .u64 0),(.int .u64 0),(.bool false)] [(0,1,(.t 48)),(1,1,(.t 49)),(2,1,(.t 50)),(3,1,(.t 51))])) (.loud (zO 53 (.box 100 (.t 52))) [zL 46 45] (.loud (zN (.mapupd false (.t 46) (.t 47) (.t 53))) [] .nil)))))))))))))
 (zS [zM 54 0,zM 55 0,zU 56 55,zF 57 4 56,zL 58 57,zM 59 8,zO 60 (.bin .add (.t 59) (.k (.int .u64 1))),zO 61 (.bslice 38 [(.int .u64 0)] 1 [(0,1,(.t 60))]),zO 62 (.append 38 1 8 (.t 58) (.t 61)),zU 63 54,zF 64 4 63,zT 1 64 62]
 (zS [zM 65 0,zM 66 0,zU 67 66,zF 68 5 67,zL 69 68,zO 70 (.bslice 61 [(.int .u8 0)] 1 [(0,1,(.k (.int .u8 0)))]),zO 71 (.append 61 1 1 (.t 69) (.t 70)),zU 72 65,zF 73 5 72,zT 1 73 71]
 (zS [zM 74 0,zM 75 7,zO 76 (.build [(.int .u8 0),(.int .i64 0),(.int .i64 0),(.int .u64 0)] [(0,1,(.k (.int .u8 1))),(1,1,(.t 75))]),zC 77 (.f 83) [.t 74,.t 76]]
 (zS [zM 78 7,zM 4 78,zK 5 (.int .i64 0)]
 .ret)))))))))))
def a24:AF:=⟨79,[.t 4,.t 5],.code b24,none⟩
def b25:AC:=
 (zS [zK 4 (.int .i64 0),zK 5 (.bool false)]
 (.seq (zS [zM 7 0,zM 8 1,zC 9 (.f 46) [.t 7,.t 8],zM 6 9]
 (zS [zM 10 6,zO 11 (.eq true .ptr (.t 10) (.k (.pointer none)))]
 (.cond (.t 11) (zS [zM 12 6,zU 13 12,zF 14 2 13,zL 15 14,zM 4 15,zK 5 (.bool true)]
 .ret)
 .skip)))
 (zS [zK 4 (.int .i64 0),zK 5 (.bool false)]
 .ret)))
def a25:AF:=⟨16,[.t 4,.t 5],.code b25,none⟩
def b26:AC:=
 (zS [zO 4 (.alloc 51 [(.int .u8 0),(.int .i64 0),(.int .u64 0)]),zK 5 (.bool false)]
 (.seq (zS [zM 7 0,zM 8 1,zC 9 (.f 46) [.t 7,.t 8],zM 6 9]
 (zS [zM 10 6,zO 11 (.eq true .ptr (.t 10) (.k (.pointer none)))]
 (.cond (.t 11) (.seq (.dreg (zQ (zM 12 6) (zQ (zU 13 12) (zQ (zF 14 4 13) (zQ (zO 15 (.loadN 3 (.t 14))) (zQ (zM 16 6) (zQ (zU 17 16) (zQ (zF 18 4 17) (zQ (zF 19 0 18) (zQ (zL 20 19) (zQ (zO 21 (.bin .neq (.t 20) (.k (.int .u8 0)))) (.loud (zT 3 4 15) [zL 20 19] (.loud (zM 5 21) [] .nil)))))))))))))
 .ret)
 .skip)))
 (zS [zO 22 (.build [(.int .u8 0),(.int .i64 0),(.int .u64 0)] []),zT 3 4 22,zK 5 (.bool false)]
 .ret)))
def a26:AF:=⟨23,[(.c 4 true 3),.t 5],.code b26,none⟩
def b27:AC:=
 (zS [zO 5 (.box 51 (.t 2)),zK 6 (.int .i64 0)]
 (.seq (zS [zM 10 0,zM 11 1,zC 12 (.f 79) [.t 10,.t 11],zM 7 12]
 (zS [zM 13 7,zO 14 (.bin .neq (.t 13) (.k (.int .i64 0)))]
 (.cond (.t 14) (zS [zM 15 7,zM 6 15]
 .ret)
 .skip)))
 (zS [zM 16 0,zU 17 16,zF 18 2 17,zL 19 18,zM 20 1,zO 21 (.lookup false (.pointer none) false (.t 19) (.t 20)),zM 8 21]
 (.seq (zS [zM 22 8,zO 23 (.eq false .ptr (.t 22) (.k (.pointer none)))]
 (.cond (.t 23) (zS [zK 6 (.int .i64 8)]
 .ret)
 .skip))
 (.seq (zS [zM 24 8,zU 25 24,zF 26 4 25,zF 27 0 26,zL 28 27,zO 29 (.bin .neq (.t 28) (.k (.int .u8 0)))]
 (.cond (.t 29) (zS [zK 6 (.int .i64 7)]
 .ret)
 .skip))
 (zS [zM 30 0,zM 31 8,zO 32 (.loadN 3 (.t 5)),zC 33 (.f 84) [.t 30,.t 31,.t 32],zM 9 33]
 (.seq (zS [zM 34 9,zO 35 (.bin .eql (.t 34) (.k (.int .i64 0)))]
 (.cond (.t 35) (.reg [zM 36 8,zM 37 8,zM 38 8,zO 39 (.loadN 3 (.t 5)),zU 40 36,zF 41 4 40,zT 3 41 39,zU 42 37,zF 43 7 42,zN (.store 1 (.t 43) (.k (.int .i64 0))),zU 44 38,zF 45 9 44,zN (.store 1 (.t 45) (.k (.int .i64 0)))])
 .skip))
 (zS [zM 46 9,zM 6 46]
 .ret))))))))
def a27:AF:=⟨47,[.t 6],.code b27,none⟩
def b28:AC:=
 (zS [zO 4 (.alloc 63 [(.bool false),(.int .u64 0),(.bool false),(.int .i64 0),(.bool false),(.int .u8 0),(.int .i64 0)])]
 (.seq (zS [zM 9 0,zM 10 1,zC 11 (.f 79) [.t 9,.t 10],zM 5 11]
 (zS [zM 12 5,zO 13 (.bin .neq (.t 12) (.k (.int .i64 0)))]
 (.cond (.t 13) (zS [zM 14 5,zO 15 (.build [(.bool false),(.int .u64 0),(.bool false),(.int .i64 0),(.bool false),(.int .u8 0),(.int .i64 0)] [(6,1,(.t 14))]),zT 7 4 15]
 .ret)
 .skip)))
 (zS [zM 16 0,zU 17 16,zF 18 2 17,zL 19 18,zM 20 1,zO 21 (.lookup false (.pointer none) false (.t 19) (.t 20)),zM 6 21]
 (.seq (zS [zM 22 6,zO 23 (.eq false .ptr (.t 22) (.k (.pointer none))),zM 24 23,zV 25 6 24 false,zG 26 (.nilchk (.t 25)) 24 false,zG 27 (.faddr 4 (.t 26)) 24 false,zG 28 (.faddr 0 (.t 27)) 24 false,zG 29 (.load (.t 28)) 24 false,zG 30 (.bin .eql (.t 29) (.k (.int .u8 0))) 24 false,zO 31 (.pick (.t 24) (.k (.bool true)) (.t 30))]
 (.cond (.t 31) (zS [zO 32 (.build [(.bool false),(.int .u64 0),(.bool false),(.int .i64 0),(.bool false),(.int .u8 0),(.int .i64 0)] [(6,1,(.k (.int .i64 8)))]),zT 7 4 32]
 .ret)
 .skip))
 (.seq (zS [zM 33 6,zU 34 33,zF 35 7 34,zL 36 35,zO 37 (.bin .geq (.t 36) (.k (.int .i64 4)))]
 (.cond (.t 37) (zS [zM 38 0,zM 39 1,zM 40 6,zC 41 (.f 85) [.t 38,.t 39,.t 40],zT 7 4 41]
 .ret)
 .skip))
 (.seq (zS [zM 42 6,zU 43 42,zF 44 4 43,zF 45 0 44,zL 46 45]
 (.block 0 (zS [zO 48 (.bin .eql (.t 46) (.k (.int .u8 7))),zM 47 48]
 (.cond (.t 47) (zS [zM 49 0,zM 50 1,zC 51 (.f 86) [.t 49,.t 50,(.k (.int .u8 4))],zT 7 4 51]
 .ret)
 (zS [zO 53 (.bin .eql (.t 46) (.k (.int .u8 6))),zM 52 53]
 (.cond (.t 52) (zS [zM 54 0,zM 55 1,zM 56 6,zC 57 (.f 87) [.t 54,.t 55,.t 56],zT 7 4 57]
 .ret)
 (zS [zO 59 (.bin .eql (.t 46) (.k (.int .u8 1))),zM 58 59]
 (.cond (.t 58) (.seq (.seq (.dreg (zQ (zM 61 6) (zQ (zU 62 61) (zQ (zF 63 1 62) (zQ (zL 64 63) (zQ (zM 65 6) (zQ (zU 66 65) (zQ (zF 67 4 66) (zQ (zF 68 1 67) (zQ (zL 69 68) (.loud (zC 70 (.f 88) [.t 64,.t 69]) [] (zQ (zM 60 70) (zQ (zO 71 (.extract (.t 60) 0)) (zQ (zO 72 (.extract (.t 60) 1)) (.loud (zM 7 71) [] (.loud (zM 8 72) [] .nil))))))))))))))))
 (zS [zM 73 8]
 (.cond (.t 73) (zS [zM 74 0,zM 75 6,zM 76 7,zC 77 (.f 89) [.t 74,.t 75,.t 76],zT 7 4 77]
 .ret)
 .skip)))
 (zS [zM 78 0,zM 79 1,zM 80 6,zC 81 (.f 90) [.t 78,.t 79,.t 80],zT 7 4 81]
 .ret))
 .skip))))))))
 (zS [zM 82 0,zM 83 1,zM 84 6,zC 85 (.f 91) [.t 82,.t 83,.t 84],zT 7 4 85]
 .ret)))))))
def a28:AF:=⟨86,[(.c 4 true 7)],.code b28,none⟩
def b29:AC:=
 (zS [zK 4 (.int .i64 0)]
 (.seq (zS [zM 7 0,zM 8 1,zC 9 (.f 79) [.t 7,.t 8],zM 5 9]
 (zS [zM 10 5,zO 11 (.bin .neq (.t 10) (.k (.int .i64 0)))]
 (.cond (.t 11) (zS [zM 12 5,zM 4 12]
 .ret)
 .skip)))
 (zS [zM 13 0,zU 14 13,zF 15 2 14,zL 16 15,zM 17 1,zO 18 (.lookup false (.pointer none) false (.t 16) (.t 17)),zM 6 18]
 (.seq (zS [zM 19 6,zO 20 (.eq false .ptr (.t 19) (.k (.pointer none))),zM 21 20,zV 22 6 21 false,zG 23 (.nilchk (.t 22)) 21 false,zG 24 (.faddr 12 (.t 23)) 21 false,zG 25 (.load (.t 24)) 21 false,zO 26 (.pick (.t 21) (.k (.bool true)) (.t 25))]
 (.cond (.t 26) (zS [zK 4 (.int .i64 8)]
 .ret)
 .skip))
 (zS [zM 27 0,zM 28 1,zC 29 (.f 86) [.t 27,.t 28,(.k (.int .u8 3))]]
 (zS [zK 4 (.int .i64 0)]
 .ret))))))
def a29:AF:=⟨30,[.t 4],.code b29,none⟩
def b30:AC:=
 (zS [zK 4 (.int .u8 0)]
 (.seq (zS [zM 5 0,zO 6 (.eq false .ptr (.t 5) (.k (.pointer none))),zM 7 6,zV 8 1 7 false,zG 9 (.bin .lss (.t 8) (.k (.int .i64 0))) 7 false,zO 10 (.pick (.t 7) (.k (.bool true)) (.t 9)),zM 11 10,zV 12 1 11 false,zV 13 0 11 false,zG 14 (.nilchk (.t 13)) 11 false,zG 15 (.faddr 5 (.t 14)) 11 false,zG 16 (.load (.t 15)) 11 false,zG 17 (.lenS (.t 16)) 11 false,zG 18 (.bin .geq (.t 12) (.t 17)) 11 false,zO 19 (.pick (.t 11) (.k (.bool true)) (.t 18))]
 (.cond (.t 19) (zS [zK 4 (.int .u8 0)]
 .ret)
 .skip))
 (zS [zM 20 0,zU 21 20,zF 22 5 21,zL 23 22,zM 24 1,zI 25 1 23 24,zL 26 25,zM 4 26]
 .ret)))
def a30:AF:=⟨27,[.t 4],.code b30,none⟩
def b31:AC:=
 (zS [zK 4 (.slice none 0 0)]
 (.seq (zS [zM 6 0,zM 7 1,zC 8 (.f 46) [.t 6,.t 7],zM 5 8]
 (zS [zM 9 5,zO 10 (.eq true .ptr (.t 9) (.k (.pointer none)))]
 (.cond (.t 10) (zS [zM 11 5,zU 12 11,zF 13 0 12,zL 14 13,zC 15 (.f 92) [.t 14],zM 4 15]
 .ret)
 .skip)))
 (zS [zK 4 (.slice none 0 0)]
 .ret)))
def a31:AF:=⟨16,[.t 4],.code b31,none⟩
def b32:AC:=
 (zS [zK 4 (.slice none 0 0)]
 (.seq (zS [zM 6 0,zM 7 1,zC 8 (.f 46) [.t 6,.t 7],zM 5 8]
 (zS [zM 9 5,zO 10 (.eq true .ptr (.t 9) (.k (.pointer none)))]
 (.cond (.t 10) (zS [zM 11 5,zU 12 11,zF 13 1 12,zL 14 13,zC 15 (.f 93) [.t 14],zM 4 15]
 .ret)
 .skip)))
 (zS [zK 4 (.slice none 0 0)]
 .ret)))
def a32:AF:=⟨16,[.t 4],.code b32,none⟩
def b33:AC:=
 (zS [zK 4 (.bool false)]
 (.seq (zS [zM 7 0,zO 8 (.eq false .ptr (.t 7) (.k (.pointer none)))]
 (.cond (.t 8) (zS [zK 4 (.bool false)]
 .ret)
 .skip))
 (zS [zM 10 0,zU 11 10,zF 12 0 11,zL 13 12,zC 14 (.f 94) [.t 13],zM 9 14,zO 15 (.extract (.t 9) 0),zO 16 (.extract (.t 9) 1),zM 5 15,zM 6 16]
 (zS [zM 17 6,zM 18 17,zV 19 5 18 true,zV 20 1 18 true,zG 21 (.bin .eql (.t 19) (.t 20)) 18 true,zO 22 (.pick (.t 18) (.t 21) (.k (.bool false))),zM 4 22]
 .ret))))
def a33:AF:=⟨23,[.t 4],.code b33,none⟩
def b34:AC:=
 (zS [zK 4 (.bool false)]
 (zS [zM 8 0,zM 9 1,zC 10 (.f 46) [.t 8,.t 9],zM 5 10]
 (.seq (zS [zM 11 5,zO 12 (.eq false .ptr (.t 11) (.k (.pointer none)))]
 (.cond (.t 12) (zS [zK 4 (.bool false)]
 .ret)
 .skip))
 (zS [zM 14 0,zU 15 14,zF 16 0 15,zL 17 16,zC 18 (.f 94) [.t 17],zM 13 18,zO 19 (.extract (.t 13) 0),zO 20 (.extract (.t 13) 1),zM 6 19,zM 7 20]
 (.seq (.dreg (zQ (zM 21 7) (zQ (zO 22 (.un .not (.t 21))) (zQ (zM 23 22) (zQ (zV 24 5 23 true) (zQ (zG 25 (.nilchk (.t 24)) 23 true) (zQ (zG 26 (.faddr 0 (.t 25)) 23 true) (zQ (zG 27 (.load (.t 26)) 23 true) (zQ (zV 28 0 23 true) (zQ (zG 29 (.nilchk (.t 28)) 23 true) (zQ (zG 30 (.faddr 1 (.t 29)) 23 true) (zQ (zG 31 (.load (.t 30)) 23 true) (.loud ⟨some 32,(.call (.f 95) [.t 27,.t 31]),(some (23,true))⟩ [] (zQ (zO 33 (.pick (.t 23) (.t 32) (.k (.bool false)))) (.loud (zM 4 33) [] .nil)))))))))))))))
 .ret)))))
def a34:AF:=⟨34,[.t 4],.code b34,none⟩
def b35:AC:=
 (zS [zK 2 (.pointer none)]
 (.seq (zS [zM 5 0,zE 6 5,zO 7 (.bin .lss (.t 6) (.k (.int .i64 1))),zM 8 7,zV 9 0 8 false,zG 10 (.lenS (.t 9)) 8 false,zG 11 (.bin .gtr (.t 10) (.k (.int .i64 12))) 8 false,zO 12 (.pick (.t 8) (.k (.bool true)) (.t 11))]
 (.cond (.t 12) (zS [zK 2 (.pointer none)]
 .ret)
 .skip))
 (.seq (zS [zM 13 0,zE 14 13,zK 15 (.int .i64 0)]
 (.block 0 (.loop (zS [zB 16 .lss 15 14]
  (.seq (.cond (.t 16) .skip
  (.exit 0))
  (.seq (.block 1 (zS [zI 17 1 13 15,zL 18 17,zM 4 18]
  (zS [zM 19 4,zC 20 (.f 96) [.t 19],zO 21 (.un .not (.t 20))]
  (.cond (.t 21) (zS [zK 2 (.pointer none)]
  .ret)
  .skip))))
  (.reg [zO 22 (.bin .add (.t 15) (.k (.int .i64 1))),zM 15 22])))))))
 (zS [zC 23 (.f 97) [],zM 24 0,zC 25 (.f 48) [.t 24],zO 26 (.mkmap),zO 27 (.build [(.pointer none),(.slice none 0 0),(.map none),(.slice none 0 0),(.slice none 0 0),(.slice none 0 0)] [(0,1,(.t 23)),(1,1,(.t 25)),(2,1,(.t 26))]),zO 28 (.box 90 (.t 27)),zM 2 28]
 .ret))))
def a35:AF:=⟨29,[.t 2],.code b35,none⟩
def b36:AC:=
 (zS [zK 2 (.bool false)]
 (.seq (zS [zM 4 0,zE 5 4,zO 6 (.bin .lss (.t 5) (.k (.int .i64 1))),zM 7 6,zV 8 0 7 false,zG 9 (.lenS (.t 8)) 7 false,zG 10 (.bin .gtr (.t 9) (.k (.int .i64 12))) 7 false,zO 11 (.pick (.t 7) (.k (.bool true)) (.t 10))]
 (.cond (.t 11) (zS [zK 2 (.bool false)]
 .ret)
 .skip))
 (.seq (zS [zK 3 (.int .i64 0)]
 (.block 0 (.loop (.seq (zS [zM 12 3,zM 13 0,zE 14 13,zB 15 .lss 12 14]
  (.cond (.t 15) .skip
  (.exit 0)))
  (.seq (.block 1 (zS [zM 18 0,zM 19 3,zI 20 1 18 19,zL 21 20,zC 22 (.f 98) [.t 21],zO 23 (.un .not (.t 22))]
  (.cond (.t 23) (zS [zK 2 (.bool false)]
  .ret)
  .skip)))
  (.reg [zM 16 3,zO 17 (.bin .add (.t 16) (.k (.int .i64 1))),zM 3 17]))))))
 (zS [zK 2 (.bool true)]
 .ret))))
def a36:AF:=⟨24,[.t 2],.code b36,none⟩
def b42:AC:=
 (zS [zK 2 (.slice none 0 0)]
 (.seq (zS [zM 3 0,⟨some 4,(.isnil false (.t 3)),none⟩]
 (.cond (.t 4) (zS [zK 2 (.slice none 0 0)]
 .ret)
 .skip))
 (zS [zO 5 (.bslice 84 [] 0 []),zM 6 0,zO 7 (.append 84 4 32 (.t 5) (.t 6)),zM 2 7]
 .ret)))
def a42:AF:=⟨8,[.t 2],.code b42,none⟩
def b43:AC:=
 (.reg [zM 4 0,zM 5 0,zE 6 5,zM 7 1,zC 8 (.f 104) [.t 4,.t 6,.t 7]])
def a43:AF:=⟨9,[],.code b43,none⟩
def b44:AC:=
 (zS [zK 5 (.int .i64 0)]
 (.seq (.dreg (zQ (zL 6 2) (zQ (zU 7 6) (zQ (zF 8 4 7) (zQ (zL 9 8) (zQ (zM 10 0) (zQ (zI 11 1 9 10) (zQ (zL 12 11) (zQ (zL 13 2) (zQ (zU 14 13) (zQ (zF 15 4 14) (zQ (zL 16 15) (zQ (zM 17 1) (zQ (zI 18 1 16 17) (zQ (zL 19 18) (.loud (zC 20 (.f 45) [.t 12,.t 19]) [] (.loud (zM 5 20) [] .nil)))))))))))))))))
 .ret))
def a44:AF:=⟨21,[.t 5],.code b44,none⟩
def b45:AC:=
 (zS [zK 4 (.int .i64 0)]
 (zS [zM 7 0,zC 8 (.f 105) [.t 7],zM 5 8]
 (zS [zM 9 1,zC 10 (.f 105) [.t 9],zM 6 10]
 (.seq (zS [zM 11 5]
 (.cond (.t 11) (.seq (zS [zM 12 6]
 (.cond (.t 12) (zS [zK 4 (.int .i64 0)]
 .ret)
 .skip))
 (zS [zK 4 (.int .i64 (-1))]
 .ret))
 .skip))
 (.seq (zS [zM 13 6]
 (.cond (.t 13) (zS [zK 4 (.int .i64 1)]
 .ret)
 .skip))
 (.seq (zS [zM 14 0,zM 15 1,zB 16 .lss 14 15]
 (.cond (.t 16) (zS [zK 4 (.int .i64 (-1))]
 .ret)
 .skip))
 (.seq (zS [zM 17 0,zM 18 1,zB 19 .gtr 17 18]
 (.cond (.t 19) (zS [zK 4 (.int .i64 1)]
 .ret)
 .skip))
 (zS [zK 4 (.int .i64 0)]
 .ret))))))))
def a45:AF:=⟨20,[.t 4],.code b45,none⟩
def b46:AC:=
 (zS [zK 4 (.pointer none)]
 (.seq (zS [zM 5 0,zO 6 (.eq false .ptr (.t 5) (.k (.pointer none)))]
 (.cond (.t 6) (zS [zK 4 (.pointer none)]
 .ret)
 .skip))
 (zS [zM 7 0,zU 8 7,zF 9 2 8,zL 10 9,zM 11 1,zO 12 (.lookup false (.pointer none) false (.t 10) (.t 11)),zM 4 12]
 .ret)))
def a46:AF:=⟨13,[.t 4],.code b46,none⟩
def b47:AC:=
 (zS [zM 3 0,zE 4 3,zM 2 4]
 (.reg [zM 5 0,zM 6 2,zM 7 2,zO 8 (.conv (.int .u64) (.t 7)),zC 9 (.f 107) [.t 8],zC 10 (.f 106) [.t 5,(.k (.int .i64 0)),.t 6,.t 9]]))
def a47:AF:=⟨11,[],.code b47,none⟩
def b48:AC:=
 (zS [zK 2 (.slice none 0 0)]
 (.seq (zS [zM 3 0,⟨some 4,(.isnil false (.t 3)),none⟩]
 (.cond (.t 4) (zS [zK 2 (.slice none 0 0)]
 .ret)
 .skip))
 (zS [zO 5 (.bslice 49 [] 0 []),zM 6 0,zO 7 (.append 49 1 8 (.t 5) (.t 6)),zM 2 7]
 .ret)))
def a48:AF:=⟨8,[.t 2],.code b48,none⟩
def b49:AC:=
 (zS [zK 2 (.int .u64 0)]
 (.seq (zS [zM 3 0,zO 4 (.eq false .ptr (.t 3) (.k (.pointer none)))]
 (.cond (.t 4) (zS [zK 2 (.int .u64 0)]
 .ret)
 .skip))
 (zS [zM 5 0,zU 6 5,zF 7 1 6,zL 8 7,zM 2 8]
 .ret)))
def a49:AF:=⟨9,[.t 2],.code b49,none⟩
def b50:AC:=
 (zS [zK 2 (.pointer none)]
 (.seq (zS [zM 3 0,zC 4 (.f 36) [.t 3],zO 5 (.un .not (.t 4))]
 (.cond (.t 5) (zS [zK 2 (.pointer none)]
 .ret)
 .skip))
 (zS [zO 6 (.bslice 49 [] 0 []),zM 7 0,zO 8 (.append 49 1 8 (.t 6) (.t 7)),zC 9 (.f 108) [],zO 10 (.build [(.slice none 0 0),(.pointer none),(.pointer none),(.pointer none),(.pointer none),(.pointer none),(.slice none 0 0),(.slice none 0 0)] [(0,1,(.t 8)),(1,1,(.t 9))]),zO 11 (.box 118 (.t 10)),zM 2 11]
 .ret)))
def a50:AF:=⟨12,[.t 2],.code b50,none⟩
def b51:AC:=
 (zS [zK 4 (.int .i64 0),zK 5 (.bool false)]
 (.seq (zS [zM 7 0,zM 8 1,zC 9 (.f 109) [.t 7,.t 8],zM 6 9]
 (zS [zM 10 6,zO 11 (.eq true .ptr (.t 10) (.k (.pointer none)))]
 (.cond (.t 11) (zS [zM 12 6,zU 13 12,zF 14 0 13,zL 15 14,zM 4 15,zK 5 (.bool true)]
 .ret)
 .skip)))
 (zS [zK 4 (.int .i64 0),zK 5 (.bool false)]
 .ret)))
def a51:AF:=⟨16,[.t 4,.t 5],.code b51,none⟩
def b52:AC:=
 (zS [zO 4 (.alloc 51 [(.int .u8 0),(.int .i64 0),(.int .u64 0)]),zK 5 (.bool false)]
 (.seq (zS [zM 7 0,zM 8 1,zC 9 (.f 109) [.t 7,.t 8],zM 6 9]
 (zS [zM 10 6,zO 11 (.eq true .ptr (.t 10) (.k (.pointer none))),zM 12 11,zV 13 6 12 true,zG 14 (.nilchk (.t 13)) 12 true,zG 15 (.faddr 4 (.t 14)) 12 true,zG 16 (.load (.t 15)) 12 true,zO 17 (.pick (.t 12) (.t 16) (.k (.bool false)))]
 (.cond (.t 17) (zS [zM 18 6,zU 19 18,zF 20 5 19,zO 21 (.loadN 3 (.t 20)),zT 3 4 21,zK 5 (.bool true)]
 .ret)
 .skip)))
 (zS [zO 22 (.build [(.int .u8 0),(.int .i64 0),(.int .u64 0)] []),zT 3 4 22,zK 5 (.bool false)]
 .ret)))
def a52:AF:=⟨23,[(.c 4 true 3),.t 5],.code b52,none⟩
def b53:AC:=
 (zS [zK 4 (.bool false)]
 (.seq (zS [zM 6 0,zE 7 6,zM 8 1,zE 9 8,zB 10 .neq 7 9]
 (.cond (.t 10) (zS [zK 4 (.bool false)]
 .ret)
 .skip))
 (.seq (zS [zK 5 (.int .i64 0)]
 (.block 0 (.loop (.seq (zS [zM 11 5,zM 12 0,zE 13 12,zB 14 .lss 11 13]
  (.cond (.t 14) .skip
  (.exit 0)))
  (.seq (.block 1 (.seq (.dreg (zQ (zM 17 0) (zQ (zM 18 5) (zQ (zI 19 3 17 18) (zQ (zO 20 (.loadN 3 (.t 19))) (zQ (zM 21 1) (zQ (zM 22 5) (zQ (zI 23 3 21 22) (zQ (zO 24 (.loadN 3 (.t 23))) (zQ (zO 25 (.eq true (.st [(0,1,false,.int),(1,1,false,.int),(2,1,false,.int)]) (.t 20) (.t 24))) .nil))))))))))
  (.cond (.t 25) (zS [zK 4 (.bool false)]
  .ret)
  .skip)))
  (.reg [zM 15 5,zO 16 (.bin .add (.t 15) (.k (.int .i64 1))),zM 5 16]))))))
 (zS [zK 4 (.bool true)]
 .ret))))
def a53:AF:=⟨26,[.t 4],.code b53,none⟩
def b54:AC:=
 (zS [zK 4 (.slice none 0 0)]
 (.seq (zS [zM 6 0,zM 7 1,zC 8 (.f 109) [.t 6,.t 7],zM 5 8]
 (zS [zM 9 5,zO 10 (.eq true .ptr (.t 9) (.k (.pointer none)))]
 (.cond (.t 10) (zS [zM 11 5,zU 12 11,zF 13 2 12,zL 14 13,zC 15 (.f 110) [.t 14],zM 4 15]
 .ret)
 .skip)))
 (zS [zK 4 (.slice none 0 0)]
 .ret)))
def a54:AF:=⟨16,[.t 4],.code b54,none⟩
def b55:AC:=
 (zS [zK 4 (.bool false)]
 (.seq (zS [zM 6 0,zE 7 6,zM 8 1,zE 9 8,zB 10 .neq 7 9]
 (.cond (.t 10) (zS [zK 4 (.bool false)]
 .ret)
 .skip))
 (.seq (zS [zK 5 (.int .i64 0)]
 (.block 0 (.loop (.seq (zS [zM 11 5,zM 12 0,zE 13 12,zB 14 .lss 11 13]
  (.cond (.t 14) .skip
  (.exit 0)))
  (.seq (.block 1 (.seq (.dreg (zQ (zM 17 0) (zQ (zM 18 5) (zQ (zI 19 2 17 18) (zQ (zO 20 (.loadN 2 (.t 19))) (zQ (zM 21 1) (zQ (zM 22 5) (zQ (zI 23 2 21 22) (zQ (zO 24 (.loadN 2 (.t 23))) (zQ (zO 25 (.eq true (.st [(0,1,false,.int),(1,1,false,.int)]) (.t 20) (.t 24))) .nil))))))))))
  (.cond (.t 25) (zS [zK 4 (.bool false)]
  .ret)
  .skip)))
  (.reg [zM 15 5,zO 16 (.bin .add (.t 15) (.k (.int .i64 1))),zM 5 16]))))))
 (zS [zK 4 (.bool true)]
 .ret))))
def a55:AF:=⟨26,[.t 4],.code b55,none⟩
def b56:AC:=
 (zS [zK 4 (.slice none 0 0)]
 (.seq (zS [zM 6 0,zM 7 1,zC 8 (.f 109) [.t 6,.t 7],zM 5 8]
 (zS [zM 9 5,zO 10 (.eq true .ptr (.t 9) (.k (.pointer none)))]
 (.cond (.t 10) (zS [zM 11 5,zU 12 11,zF 13 3 12,zL 14 13,zC 15 (.f 111) [.t 14],zM 4 15]
 .ret)
 .skip)))
 (zS [zK 4 (.slice none 0 0)]
 .ret)))
def a56:AF:=⟨16,[.t 4],.code b56,none⟩
def b57:AC:=
 (zS [zK 4 (.bool false)]
 (.seq (zS [zM 7 0,zO 8 (.eq false .ptr (.t 7) (.k (.pointer none)))]
 (.cond (.t 8) (zS [zK 4 (.bool false)]
 .ret)
 .skip))
 (zS [zM 10 0,zU 11 10,zF 12 1 11,zL 13 12,zC 14 (.f 112) [.t 13],zM 9 14,zO 15 (.extract (.t 9) 0),zO 16 (.extract (.t 9) 1),zM 5 15,zM 6 16]
 (zS [zM 17 6,zM 18 17,zV 19 5 18 true,zV 20 1 18 true,zG 21 (.bin .eql (.t 19) (.t 20)) 18 true,zO 22 (.pick (.t 18) (.t 21) (.k (.bool false))),zM 4 22]
 .ret))))
def a57:AF:=⟨23,[.t 4],.code b57,none⟩
def b58:AC:=
 (zS [zK 4 (.bool false)]
 (zS [zM 8 0,zM 9 1,zC 10 (.f 109) [.t 8,.t 9],zM 5 10]
 (.seq (zS [zM 11 5,zO 12 (.eq false .ptr (.t 11) (.k (.pointer none)))]
 (.cond (.t 12) (zS [zK 4 (.bool false)]
 .ret)
 .skip))
 (zS [zM 14 0,zU 15 14,zF 16 1 15,zL 17 16,zC 18 (.f 112) [.t 17],zM 13 18,zO 19 (.extract (.t 13) 0),zO 20 (.extract (.t 13) 1),zM 6 19,zM 7 20]
 (.seq (.dreg (zQ (zM 21 7) (zQ (zO 22 (.un .not (.t 21))) (zQ (zM 23 22) (zQ (zV 24 5 23 true) (zQ (zG 25 (.nilchk (.t 24)) 23 true) (zQ (zG 26 (.faddr 2 (.t 25)) 23 true) (zQ (zG 27 (.load (.t 26)) 23 true) (zQ (zV 28 0 23 true) (zQ (zG 29 (.nilchk (.t 28)) 23 true) (zQ (zG 30 (.faddr 0 (.t 29)) 23 true) (zQ (zG 31 (.load (.t 30)) 23 true) (.loud ⟨some 32,(.call (.f 113) [.t 27,.t 31]),(some (23,true))⟩ [] (zQ (zO 33 (.pick (.t 23) (.t 32) (.k (.bool false)))) (.loud (zM 4 33) [] .nil)))))))))))))))
 .ret)))))
def a58:AF:=⟨34,[.t 4],.code b58,none⟩
def b59:AC:=
 (zS [zK 4 (.int .u8 0)]
 (.seq (zS [zM 5 0,zO 6 (.eq false .ptr (.t 5) (.k (.pointer none))),zM 7 6,zV 8 1 7 false,zG 9 (.bin .lss (.t 8) (.k (.int .i64 0))) 7 false,zO 10 (.pick (.t 7) (.k (.bool true)) (.t 9)),zM 11 10,zV 12 1 11 false,zV 13 0 11 false,zG 14 (.nilchk (.t 13)) 11 false,zG 15 (.faddr 7 (.t 14)) 11 false,zG 16 (.load (.t 15)) 11 false,zG 17 (.lenS (.t 16)) 11 false,zG 18 (.bin .geq (.t 12) (.t 17)) 11 false,zO 19 (.pick (.t 11) (.k (.bool true)) (.t 18))]
 (.cond (.t 19) (zS [zK 4 (.int .u8 0)]
 .ret)
 .skip))
 (zS [zM 20 0,zU 21 20,zF 22 7 21,zL 23 22,zM 24 1,zI 25 2 23 24,zF 26 1 25,zL 27 26,zM 4 27]
 .ret)))
def a59:AF:=⟨28,[.t 4],.code b59,none⟩
def b60:AC:=
 (zS [zK 2 (.slice none 0 0)]
 (.seq (zS [zM 3 0,zO 4 (.eq false .ptr (.t 3) (.k (.pointer none)))]
 (.cond (.t 4) (zS [zK 2 (.slice none 0 0)]
 .ret)
 .skip))
 (zS [zO 5 (.bslice 49 [] 0 []),zM 6 0,zU 7 6,zF 8 0 7,zL 9 8,zO 10 (.append 49 1 8 (.t 5) (.t 9)),zM 2 10]
 .ret)))
def a60:AF:=⟨11,[.t 2],.code b60,none⟩
def b61:AC:=
 (zS [zK 4 (.bool false)]
 (.seq (zS [zM 6 0,zE 7 6,zM 8 1,zE 9 8,zB 10 .neq 7 9]
 (.cond (.t 10) (zS [zK 4 (.bool false)]
 .ret)
 .skip))
 (.seq (zS [zK 5 (.int .i64 0)]
 (.block 0 (.loop (.seq (zS [zM 11 5,zM 12 0,zE 13 12,zB 14 .lss 11 13]
  (.cond (.t 14) .skip
  (.exit 0)))
  (.seq (.block 1 (.seq (.dreg (zQ (zM 17 0) (zQ (zM 18 5) (zQ (zI 19 4 17 18) (zQ (zO 20 (.loadN 4 (.t 19))) (zQ (zM 21 1) (zQ (zM 22 5) (zQ (zI 23 4 21 22) (zQ (zO 24 (.loadN 4 (.t 23))) (zQ (zO 25 (.eq true (.st [(0,1,false,.int),(1,1,false,.int),(2,1,false,.int),(3,1,false,.int)]) (.t 20) (.t 24))) .nil))))))))))
  (.cond (.t 25) (zS [zK 4 (.bool false)]
  .ret)
  .skip)))
  (.reg [zM 15 5,zO 16 (.bin .add (.t 15) (.k (.int .i64 1))),zM 5 16]))))))
 (zS [zK 4 (.bool true)]
 .ret))))
def a61:AF:=⟨26,[.t 4],.code b61,none⟩
def b62:AC:=
 (zS [zK 2 (.slice none 0 0)]
 (.seq (zS [zM 3 0,zO 4 (.eq false .ptr (.t 3) (.k (.pointer none)))]
 (.cond (.t 4) (zS [zK 2 (.slice none 0 0)]
 .ret)
 .skip))
 (zS [zO 5 (.bslice 84 [] 0 []),zM 6 0,zU 7 6,zF 8 6 7,zL 9 8,zO 10 (.append 84 4 32 (.t 5) (.t 9)),zM 2 10]
 .ret)))
def a62:AF:=⟨11,[.t 2],.code b62,none⟩
def b63:AC:=
 (zS [zK 4 (.bool false)]
 (.seq (zS [zM 6 0,zE 7 6,zM 8 1,zE 9 8,zB 10 .neq 7 9]
 (.cond (.t 10) (zS [zK 4 (.bool false)]
 .ret)
 .skip))
 (.seq (zS [zK 5 (.int .i64 0)]
 (.block 0 (.loop (.seq (zS [zM 11 5,zM 12 0,zE 13 12,zB 14 .lss 11 13]
  (.cond (.t 14) .skip
  (.exit 0)))
  (.seq (.block 1 (.seq (.dreg (zQ (zM 17 0) (zQ (zM 18 5) (zQ (zI 19 1 17 18) (zQ (zL 20 19) (zQ (zM 21 1) (zQ (zM 22 5) (zQ (zI 23 1 21 22) (zQ (zL 24 23) (zQ (zB 25 .neq 20 24) .nil))))))))))
  (.cond (.t 25) (zS [zK 4 (.bool false)]
  .ret)
  .skip)))
  (.reg [zM 15 5,zO 16 (.bin .add (.t 15) (.k (.int .i64 1))),zM 5 16]))))))
 (zS [zK 4 (.bool true)]
 .ret))))
def a63:AF:=⟨26,[.t 4],.code b63,none⟩
def b64:AC:=
 (zS [zK 2 (.slice none 0 0)]
 (zS [zK 3 (.slice none 0 0)]
 (.seq (zS [zK 4 (.int .i64 0)]
 (.block 0 (.loop (.seq (zS [zM 6 0,zO 7 (.eq true .ptr (.t 6) (.k (.pointer none))),zM 8 7,zV 9 4 8 true,zV 10 0 8 true,zG 11 (.nilchk (.t 10)) 8 true,zG 12 (.faddr 7 (.t 11)) 8 true,zG 13 (.load (.t 12)) 8 true,zG 14 (.lenS (.t 13)) 8 true,zG 15 (.bin .lss (.t 9) (.t 14)) 8 true,zO 16 (.pick (.t 8) (.t 15) (.k (.bool false)))]
  (.cond (.t 16) .skip
  (.exit 0)))
  (.seq (.block 1 (zS [zK 5 (.int .i64 0)]
  (.seq (.block 2 (.loop (.seq (.seq (.dreg (zQ (zM 19 5) (zQ (zM 20 3) (zQ (zE 21 20) (zQ (zB 22 .lss 19 21) (zQ (zM 23 22) (zQ (zV 24 0 23 true) (zQ (zG 25 (.nilchk (.t 24)) 23 true) (zQ (zG 26 (.faddr 7 (.t 25)) 23 true) (zQ (zG 27 (.load (.t 26)) 23 true) (zQ (zV 28 3 23 true) (zQ (zV 29 5 23 true) (zQ (zG 30 (.iaddrS 1 (.t 28) (.t 29)) 23 true) (zQ (zG 31 (.load (.t 30)) 23 true) (zQ (zG 32 (.iaddrS 2 (.t 27) (.t 31)) 23 true) (zQ (zG 33 (.faddr 0 (.t 32)) 23 true) (zQ (zG 34 (.load (.t 33)) 23 true) (zQ (zV 35 0 23 true) (zQ (zG 36 (.nilchk (.t 35)) 23 true) (zQ (zG 37 (.faddr 7 (.t 36)) 23 true) (zQ (zG 38 (.load (.t 37)) 23 true) (zQ (zV 39 4 23 true) (zQ (zG 40 (.iaddrS 2 (.t 38) (.t 39)) 23 true) (zQ (zG 41 (.faddr 0 (.t 40)) 23 true) (zQ (zG 42 (.load (.t 41)) 23 true) (zQ (zG 43 (.bin .leq (.t 34) (.t 42)) 23 true) (zQ (zO 44 (.pick (.t 23) (.t 43) (.k (.bool false)))) .nil)))))))))))))))))))))))))))
   (.cond (.t 44) .skip
   (.exit 2)))
   (.block 3 (.reg [zM 45 5,zO 46 (.bin .add (.t 45) (.k (.int .i64 1))),zM 5 46])))))
  (.dreg (zQ (zM 47 3) (zQ (zM 48 5) (zQ (zM 49 5) (zQ (zO 50 (.slice 1 (.t 47) none (some (.t 48)) (some (.t 49)))) (zQ (zM 51 4) (zQ (zM 53 3) (zQ (zM 54 5) (zQ (zO 55 (.slice 1 (.t 53) (some (.t 54)) none none)) (.loud (zO 52 (.bslice 3 [(.int .i64 0)] 1 [(0,1,(.t 51))])) [] (.loud (zO 56 (.append 3 1 8 (.t 52) (.t 55))) [] (.loud (zO 57 (.append 3 1 8 (.t 50) (.t 56))) [] (.loud (zM 3 57) [] .nil))))))))))))))))
  (.reg [zM 17 4,zO 18 (.bin .add (.t 17) (.k (.int .i64 1))),zM 4 18]))))))
 (zS [zM 58 3,zM 2 58]
 .ret))))
def a64:AF:=⟨59,[.t 2],.code b64,none⟩
def b65:AC:=
 (zS [zK 2 (.slice none 0 0)]
 (zS [zK 3 (.slice none 0 0)]
 (.seq (zS [zK 4 (.int .i64 0)]
 (.block 0 (.loop (.seq (zS [zM 6 0,zO 7 (.eq true .ptr (.t 6) (.k (.pointer none))),zM 8 7,zV 9 4 8 true,zV 10 0 8 true,zG 11 (.nilchk (.t 10)) 8 true,zG 12 (.faddr 7 (.t 11)) 8 true,zG 13 (.load (.t 12)) 8 true,zG 14 (.lenS (.t 13)) 8 true,zG 15 (.bin .lss (.t 9) (.t 14)) 8 true,zO 16 (.pick (.t 8) (.t 15) (.k (.bool false)))]
  (.cond (.t 16) .skip
  (.exit 0)))
  (.seq (.block 1 (zS [zK 5 (.int .i64 0)]
  (.block 2 (.loop (.seq (zS [zM 19 5,zO 20 (.bin .lss (.t 19) (.k (.int .i64 4)))]
   (.cond (.t 20) .skip
   (.exit 2)))
   (.seq (.block 3 (zS [zM 23 0,zM 24 5,zU 25 23,zF 26 2 25,zO 27 (.iaddrA 4 1 (.t 26) (.t 24)),zL 28 27,zO 29 (.eq true .ptr (.t 28) (.k (.pointer none))),zM 30 29,zV 31 0 30 true,zV 32 5 30 true,zG 33 (.nilchk (.t 31)) 30 true,zG 34 (.faddr 2 (.t 33)) 30 true,zG 35 (.iaddrA 4 1 (.t 34) (.t 32)) 30 true,zG 36 (.load (.t 35)) 30 true,zG 37 (.nilchk (.t 36)) 30 true,zG 38 (.faddr 0 (.t 37)) 30 true,zG 39 (.load (.t 38)) 30 true,zV 40 4 30 true,zG 41 (.bin .eql (.t 39) (.t 40)) 30 true,zO 42 (.pick (.t 30) (.t 41) (.k (.bool false))),zM 43 42,zV 44 0 43 true,zV 45 5 43 true,zG 46 (.nilchk (.t 44)) 43 true,zG 47 (.faddr 2 (.t 46)) 43 true,zG 48 (.iaddrA 4 1 (.t 47) (.t 45)) 43 true,zG 49 (.load (.t 48)) 43 true,zG 50 (.nilchk (.t 49)) 43 true,zG 51 (.faddr 13 (.t 50)) 43 true,zG 52 (.load (.t 51)) 43 true,zO 53 (.pick (.t 43) (.t 52) (.k (.bool false)))]
   (.cond (.t 53) (.reg [zM 54 3,zM 55 4,zO 56 (.bslice 3 [(.int .i64 0)] 1 [(0,1,(.t 55))]),zO 57 (.append 3 1 8 (.t 54) (.t 56)),zM 3 57])
   .skip)))
   (.reg [zM 21 5,zO 22 (.bin .add (.t 21) (.k (.int .i64 1))),zM 5 22])))))))
  (.reg [zM 17 4,zO 18 (.bin .add (.t 17) (.k (.int .i64 1))),zM 4 18]))))))
 (zS [zM 58 3,zM 2 58]
 .ret))))
def a65:AF:=⟨59,[.t 2],.code b65,none⟩
def b66:AC:=
 (zS [zK 2 (.int .u64 0)]
 (.seq (zS [zM 3 0,zO 4 (.eq false .ptr (.t 3) (.k (.pointer none)))]
 (.cond (.t 4) (zS [zK 2 (.int .u64 0)]
 .ret)
 .skip))
 (zS [zM 5 0,zU 6 5,zF 7 1 6,zL 8 7,zC 9 (.f 114) [.t 8],zM 2 9]
 .ret)))
def a66:AF:=⟨10,[.t 2],.code b66,none⟩
def b75:AC:=
 (zS [zK 4 (.int .i64 0),zK 5 (.int .i64 0)]
 (.seq (.block 0 (zS [zM 10 0,zO 11 (.eq false .ptr (.t 10) (.k (.pointer none))),zM 9 11]
 (.cond (.t 9) (zS [zK 4 (.int .i64 0),zK 5 (.int .i64 1)]
 .ret)
 (zS [zM 13 1,zC 14 (.f 116) [.t 13],zO 15 (.bin .neq (.t 14) (.k (.int .i64 0))),zM 12 15]
 (.cond (.t 12) (zS [zK 4 (.int .i64 0),zK 5 (.int .i64 2)]
 .ret)
 (zS [zM 17 0,zM 18 1,zU 19 17,zF 20 2 19,zO 21 (.iaddrA 4 1 (.t 20) (.t 18)),zL 22 21,zO 23 (.eq true .ptr (.t 22) (.k (.pointer none))),zM 16 23]
 (.cond (.t 16) (zS [zK 4 (.int .i64 0),zK 5 (.int .i64 8)]
 .ret)
 (zS [zM 25 0,zU 26 25,zF 27 7 26,zL 28 27,zE 29 28,zO 30 (.bin .geq (.t 29) (.k (.int .i64 64))),zM 24 30]
 (.cond (.t 24) (zS [zK 4 (.int .i64 0),zK 5 (.int .i64 4)]
 .ret)
 .skip)))))))))
 (zS [zM 32 0,zU 33 32,zF 34 1 33,zL 35 34,zC 36 (.f 117) [.t 35],zM 31 36,zO 37 (.extract (.t 31) 0),zO 38 (.extract (.t 31) 1),zM 6 37,zM 7 38]
 (.seq (zS [zM 39 7,zO 40 (.bin .neq (.t 39) (.k (.int .i64 0)))]
 (.cond (.t 40) (zS [zM 41 7,zK 4 (.int .i64 0),zM 5 41]
 .ret)
 .skip))
 (zS [zM 42 0,zU 43 42,zF 44 7 43,zL 45 44,zE 46 45,zM 8 46]
 (.seq (.dreg (zQ (zM 47 0) (zQ (zM 48 1) (zQ (zM 49 8) (zQ (zM 50 6) (zQ (zU 55 47) (zQ (zF 56 2 55) (.loud (zC 51 (.f 118) []) [] (.loud (zC 52 (.f 119) []) [] (zQ (zO 53 (.build [(.int .i64 0),(.int .u64 0),(.pointer none),(.pointer none),(.bool false),(.int .u8 0),(.int .i64 0),(.int .u64 0),(.int .i64 0),(.int .i64 0),(.int .i64 0),(.int .u64 0),(.int .u64 0),(.bool false)] [(0,1,(.t 49)),(1,1,(.t 50)),(2,1,(.t 51)),(3,1,(.t 52))])) (.loud (zO 54 (.box 123 (.t 53))) [] (zQ (zO 57 (.iaddrA 4 1 (.t 56) (.t 48))) (.loud (zT 1 57 54) [] .nil)))))))))))))
 (zS [zM 58 0,zO 59 (.bslice 159 [] 0 []),zM 60 0,zU 61 60,zF 62 7 61,zL 63 62,zO 64 (.append 159 2 16 (.t 59) (.t 63)),zM 65 6,zO 66 (.bin .add (.t 65) (.k (.int .u64 1))),zO 67 (.build [(.int .u64 0),(.int .u8 0)] [(0,1,(.t 66))]),zO 68 (.bslice 159 [(.int .u64 0),(.int .u8 0)] 1 [(0,2,(.t 67))]),zO 69 (.append 159 2 16 (.t 64) (.t 68)),zU 70 58,zF 71 7 70,zT 1 71 69]
 (zS [zM 72 0,zM 73 8,zO 74 (.build [(.int .u8 0),(.int .i64 0),(.int .i64 0),(.int .u64 0)] [(0,1,(.k (.int .u8 1))),(1,1,(.t 73))]),zC 75 (.f 120) [.t 72,.t 74]]
 (zS [zM 76 8,zM 4 76,zK 5 (.int .i64 0)]
 .ret)))))))))
def a75:AF:=⟨77,[.t 4,.t 5],.code b75,none⟩
def b76:AC:=
 (zS [zO 5 (.box 51 (.t 2)),zK 6 (.int .i64 0)]
 (.seq (.block 0 (zS [zM 10 0,zO 11 (.eq false .ptr (.t 10) (.k (.pointer none))),zM 9 11]
 (.cond (.t 9) (zS [zK 6 (.int .i64 1)]
 .ret)
 (zS [zM 13 1,zC 14 (.f 116) [.t 13],zO 15 (.bin .neq (.t 14) (.k (.int .i64 0))),zM 12 15]
 (.cond (.t 12) (zS [zK 6 (.int .i64 2)]
 .ret)
 (zS [zM 17 0,zM 18 1,zU 19 17,zF 20 2 19,zO 21 (.iaddrA 4 1 (.t 20) (.t 18)),zL 22 21,zO 23 (.eq false .ptr (.t 22) (.k (.pointer none))),zM 16 23]
 (.cond (.t 16) (zS [zK 6 (.int .i64 8)]
 .ret)
 (zS [zM 25 0,zM 26 1,zU 27 25,zF 28 2 27,zO 29 (.iaddrA 4 1 (.t 28) (.t 26)),zL 30 29,zU 31 30,zF 32 4 31,zL 33 32,zM 24 33]
 (.cond (.t 24) (zS [zK 6 (.int .i64 7)]
 .ret)
 .skip)))))))))
 (zS [zM 34 0,zM 35 1,zU 36 34,zF 37 2 36,zO 38 (.iaddrA 4 1 (.t 37) (.t 35)),zL 39 38,zM 7 39]
 (.seq (.seq (.dreg (zQ (zO 40 (.loadN 3 (.t 5))) (zQ (zM 41 0) (zQ (zU 42 41) (zQ (zF 43 0 42) (zQ (zL 44 43) (zQ (zE 45 44) (zQ (zM 46 7) (zQ (zU 47 46) (zQ (zF 48 3 47) (zQ (zL 49 48) (.loud (zC 50 (.f 121) [.t 40,.t 45,.t 49]) [] (.loud (zM 8 50) [] .nil)))))))))))))
 (zS [zM 51 8,zO 52 (.bin .neq (.t 51) (.k (.int .i64 0)))]
 (.cond (.t 52) (zS [zM 53 8,zM 6 53]
 .ret)
 .skip)))
 (.seq (.dreg (zQ (zM 54 7) (zQ (zM 55 7) (zQ (zM 56 7) (zQ (zM 57 7) (zQ (zO 58 (.loadN 3 (.t 5))) (zQ (zU 59 54) (zQ (zF 60 4 59) (.loud (zN (.store 1 (.t 60) (.k (.bool true)))) [zO 58 (.loadN 3 (.t 5))] (zQ (zU 61 55) (zQ (zF 62 5 61) (.loud (zT 3 62 58) [] (zQ (zU 63 56) (zQ (zF 64 8 63) (.loud (zN (.store 1 (.t 64) (.k (.int .i64 0)))) [] (zQ (zU 65 57) (zQ (zF 66 10 65) (.loud (zN (.store 1 (.t 66) (.k (.int .i64 0)))) [] .nil))))))))))))))))))
 (zS [zK 6 (.int .i64 0)]
 .ret))))))
def a76:AF:=⟨67,[.t 6],.code b76,none⟩
def b77:AC:=
 (zS [zO 4 (.alloc 63 [(.bool false),(.int .u64 0),(.bool false),(.int .i64 0),(.bool false),(.int .u8 0),(.int .i64 0)])]
 (.seq (.block 0 (zS [zM 7 0,zO 8 (.eq false .ptr (.t 7) (.k (.pointer none))),zM 6 8]
 (.cond (.t 6) (zS [zO 9 (.build [(.bool false),(.int .u64 0),(.bool false),(.int .i64 0),(.bool false),(.int .u8 0),(.int .i64 0)] [(6,1,(.k (.int .i64 1)))]),zT 7 4 9]
 .ret)
 (zS [zM 11 1,zC 12 (.f 116) [.t 11],zO 13 (.bin .neq (.t 12) (.k (.int .i64 0))),zM 10 13]
 (.cond (.t 10) (zS [zO 14 (.build [(.bool false),(.int .u64 0),(.bool false),(.int .i64 0),(.bool false),(.int .u8 0),(.int .i64 0)] [(6,1,(.k (.int .i64 2)))]),zT 7 4 14]
 .ret)
 (zS [zM 16 0,zM 17 1,zU 18 16,zF 19 2 18,zO 20 (.iaddrA 4 1 (.t 19) (.t 17)),zL 21 20,zO 22 (.eq false .ptr (.t 21) (.k (.pointer none))),zM 23 22,zV 24 0 23 false,zV 25 1 23 false,zG 26 (.nilchk (.t 24)) 23 false,zG 27 (.faddr 2 (.t 26)) 23 false,zG 28 (.iaddrA 4 1 (.t 27) (.t 25)) 23 false,zG 29 (.load (.t 28)) 23 false,zG 30 (.nilchk (.t 29)) 23 false,zG 31 (.faddr 4 (.t 30)) 23 false,zG 32 (.load (.t 31)) 23 false,zG 33 (.un .not (.t 32)) 23 false,zO 34 (.pick (.t 23) (.k (.bool true)) (.t 33)),zM 15 34]
 (.cond (.t 15) (zS [zO 35 (.build [(.bool false),(.int .u64 0),(.bool false),(.int .i64 0),(.bool false),(.int .u8 0),(.int .i64 0)] [(6,1,(.k (.int .i64 8)))]),zT 7 4 35]
 .ret)
 .skip)))))))
 (zS [zM 36 0,zM 37 1,zU 38 36,zF 39 2 38,zO 40 (.iaddrA 4 1 (.t 39) (.t 37)),zL 41 40,zM 5 41]
 (.seq (.block 1 (zS [zM 43 5,zU 44 43,zF 45 8 44,zL 46 45,zO 47 (.bin .geq (.t 46) (.k (.int .i64 10))),zM 42 47]
 (.cond (.t 42) (zS [zM 48 0,zM 49 1,zM 50 5,zC 51 (.f 122) [.t 48,.t 49,.t 50],zT 7 4 51]
 .ret)
 (zS [zM 53 5,zU 54 53,zF 55 5 54,zF 56 0 55,zL 57 56,zO 58 (.bin .eql (.t 57) (.k (.int .u8 7))),zM 52 58]
 (.cond (.t 52) (zS [zM 59 0,zM 60 1,zC 61 (.f 123) [.t 59,.t 60,(.k (.int .u8 4))],zT 7 4 61]
 .ret)
 (zS [zM 63 5,zU 64 63,zF 65 5 64,zF 66 0 65,zL 67 66,zO 68 (.bin .eql (.t 67) (.k (.int .u8 1))),zM 62 68]
 (.cond (.t 62) (zS [zM 69 0,zM 70 1,zM 71 5,zC 72 (.f 124) [.t 69,.t 70,.t 71],zT 7 4 72]
 .ret)
 (zS [zM 74 5,zU 75 74,zF 76 5 75,zF 77 0 76,zL 78 77,zO 79 (.bin .eql (.t 78) (.k (.int .u8 6))),zM 73 79]
 (.cond (.t 73) (zS [zM 80 0,zM 81 1,zM 82 5,zC 83 (.f 125) [.t 80,.t 81,.t 82],zT 7 4 83]
 .ret)
 (.seq (.dreg (zQ (zM 85 5) (zQ (zU 86 85) (zQ (zF 87 3 86) (zQ (zL 88 87) (zQ (zM 89 5) (zQ (zU 90 89) (zQ (zF 91 5 90) (zQ (zO 92 (.loadN 3 (.t 91))) (.loud (zC 93 (.f 126) [.t 88,.t 92]) [] (zQ (zO 94 (.un .not (.t 93))) (.loud (zM 84 94) [] .nil))))))))))))
 (.cond (.t 84) (zS [zM 95 0,zM 96 1,zC 97 (.f 123) [.t 95,.t 96,(.k (.int .u8 2))],zT 7 4 97]
 .ret)
 .skip)))))))))))
 (zS [zM 98 5,zU 99 98,zF 100 4 99,zN (.store 1 (.t 100) (.k (.bool false)))]
 (.seq (.dreg (zQ (zM 101 0) (zQ (zM 102 5) (zQ (zU 103 102) (zQ (zF 104 0 103) (zQ (zL 105 104) (zQ (zM 106 5) (zQ (zU 107 106) (zQ (zF 108 5 107) (zQ (zO 109 (.loadN 3 (.t 108))) (.loud (zC 110 (.f 127) [.t 105,.t 109]) [] (.loud (zC 111 (.f 120) [.t 101,.t 110]) [] .nil))))))))))))
 (zS [zO 112 (.build [(.bool false),(.int .u64 0),(.bool false),(.int .i64 0),(.bool false),(.int .u8 0),(.int .i64 0)] [(0,1,(.k (.bool true)))]),zT 7 4 112]
 .ret)))))))
def a77:AF:=⟨113,[(.c 4 true 7)],.code b77,none⟩
def b78:AC:=
 (zS [zK 4 (.int .i64 0)]
 (.seq (.block 0 (zS [zM 6 0,zO 7 (.eq false .ptr (.t 6) (.k (.pointer none))),zM 5 7]
 (.cond (.t 5) (zS [zK 4 (.int .i64 1)]
 .ret)
 (zS [zM 9 1,zC 10 (.f 116) [.t 9],zO 11 (.bin .neq (.t 10) (.k (.int .i64 0))),zM 8 11]
 (.cond (.t 8) (zS [zK 4 (.int .i64 2)]
 .ret)
 (zS [zM 13 0,zM 14 1,zU 15 13,zF 16 2 15,zO 17 (.iaddrA 4 1 (.t 16) (.t 14)),zL 18 17,zO 19 (.eq false .ptr (.t 18) (.k (.pointer none))),zM 20 19,zV 21 0 20 false,zV 22 1 20 false,zG 23 (.nilchk (.t 21)) 20 false,zG 24 (.faddr 2 (.t 23)) 20 false,zG 25 (.iaddrA 4 1 (.t 24) (.t 22)) 20 false,zG 26 (.load (.t 25)) 20 false,zG 27 (.nilchk (.t 26)) 20 false,zG 28 (.faddr 13 (.t 27)) 20 false,zG 29 (.load (.t 28)) 20 false,zO 30 (.pick (.t 20) (.k (.bool true)) (.t 29)),zM 12 30]
 (.cond (.t 12) (zS [zK 4 (.int .i64 8)]
 .ret)
 .skip)))))))
 (zS [zM 31 0,zM 32 1,zC 33 (.f 123) [.t 31,.t 32,(.k (.int .u8 3))]]
 (zS [zK 4 (.int .i64 0)]
 .ret))))
def a78:AF:=⟨34,[.t 4],.code b78,none⟩
def b79:AC:=
 (zS [zK 4 (.int .i64 0)]
 (.seq (.block 0 (zS [zM 6 0,zO 7 (.eq false .ptr (.t 6) (.k (.pointer none))),zM 5 7]
 (.cond (.t 5) (zS [zK 4 (.int .i64 1)]
 .ret)
 (zS [zM 9 1,zO 10 (.bin .lss (.t 9) (.k (.int .i64 0))),zM 11 10,zV 12 1 11 false,zG 13 (.bin .geq (.t 12) (.k (.int .i64 4))) 11 false,zO 14 (.pick (.t 11) (.k (.bool true)) (.t 13)),zM 8 14]
 (.cond (.t 8) (zS [zK 4 (.int .i64 2)]
 .ret)
 .skip)))))
 (zS [zK 4 (.int .i64 0)]
 .ret)))
def a79:AF:=⟨15,[.t 4],.code b79,none⟩
def b80:AC:=
 (zS [zO 1 (.box 85 (.t 0)),zO 2 (.alloc 38 [(.int .u64 0)]),zK 3 (.int .i64 0)]
 (zS [zO 4 (.mkfunc 129 [] [.t 1,.t 2]),zC 5 (.f 128) [.t 4],zM 3 5]
 (zS [zL 6 2,zM 7 3,zT 1 2 6,zM 3 7]
 .ret)))
def a80:AF:=⟨8,[(.c 2 false 1),.t 3],.code b80,none⟩
def b81:AC:=
 (zS [zK 0 (.pointer none)]
 (zS [zO 1 (.mkmap),zO 2 (.build [(.slice none 0 0),(.map none)] [(1,1,(.t 1))]),zO 3 (.box 163 (.t 2)),zM 0 3]
 .ret))
def a81:AF:=⟨4,[.t 0],.code b81,none⟩
def b82:AC:=
 (zS [zK 0 (.pointer none)]
 (zS [zK 1 (.pointer none)]
 (zS [zM 2 1,zC 3 (.f 131) [.t 2,(.k (.slice none 0 0))],zO 4 (.build [(.pointer none),(.int .i64 0)] [(0,1,(.t 3))]),zO 5 (.box 166 (.t 4)),zM 0 5]
 .ret)))
def a82:AF:=⟨6,[.t 0],.code b82,none⟩
def b83:AC:=
 (zS [zO 3 (.box 84 (.t 1))]
 (.dreg (zQ (zM 4 0) (zQ (zM 5 0) (zQ (zU 6 5) (zQ (zF 7 3 6) (zQ (zL 8 7) (zQ (zO 9 (.loadN 4 (.t 3))) (.loud (zO 10 (.bslice 84 [(.int .u8 0),(.int .i64 0),(.int .i64 0),(.int .u64 0)] 1 [(0,4,(.t 9))])) [zL 8 7] (.loud (zO 11 (.append 84 4 32 (.t 8) (.t 10))) [] (zQ (zU 12 4) (zQ (zF 13 3 12) (.loud (zT 1 13 11) [] .nil)))))))))))))
def a83:AF:=⟨14,[],.code b83,none⟩
def b84:AC:=
 (zS [zO 5 (.box 51 (.t 2)),zK 6 (.int .i64 0)]
 (zS [zF 9 0 5,zL 10 9,zO 11 (.bin .eql (.t 10) (.k (.int .u8 1))),zM 12 11,zG 13 (.faddr 0 (.t 5)) 12 false,zG 14 (.load (.t 13)) 12 false,zG 15 (.bin .eql (.t 14) (.k (.int .u8 2))) 12 false,zO 16 (.pick (.t 12) (.k (.bool true)) (.t 15)),zM 7 16]
 (zS [zM 17 1,zU 18 17,zF 19 1 18,zL 20 19,zC 21 (.f 132) [.t 20],zM 8 21]
 (.seq (.block 0 (zS [zF 23 0 5,zL 24 23,zO 25 (.bin .eql (.t 24) (.k (.int .u8 0))),zM 26 25,zG 27 (.faddr 0 (.t 5)) 26 false,zG 28 (.load (.t 27)) 26 false,zG 29 (.bin .gtr (.t 28) (.k (.int .u8 7))) 26 false,zO 30 (.pick (.t 26) (.k (.bool true)) (.t 29)),zM 22 30]
 (.cond (.t 22) (zS [zK 6 (.int .i64 2)]
 .ret)
 (.seq (.dreg (zQ (zM 32 7) (zQ (zM 33 32) (zQ (zG 34 (.faddr 1 (.t 5)) 33 true) (zQ (zG 35 (.load (.t 34)) 33 true) (zQ (zG 36 (.bin .lss (.t 35) (.k (.int .i64 0))) 33 true) (zQ (zV 37 36 33 true) (zQ (zG 38 (.faddr 1 (.t 5)) 37 false) (zQ (zG 39 (.load (.t 38)) 37 false) (zQ (zV 40 0 37 false) (zQ (zG 41 (.nilchk (.t 40)) 37 false) (zQ (zG 42 (.faddr 1 (.t 41)) 37 false) (zQ (zG 43 (.load (.t 42)) 37 false) (zQ (zG 44 (.lenS (.t 43)) 37 false) (zQ (zG 45 (.bin .geq (.t 39) (.t 44)) 37 false) (zQ (zG 46 (.pick (.t 37) (.k (.bool true)) (.t 45)) 33 true) (zQ (zO 47 (.pick (.t 33) (.t 46) (.k (.bool false)))) (.loud (zM 31 47) [] .nil))))))))))))))))))
 (.cond (.t 31) (zS [zK 6 (.int .i64 2)]
 .ret)
 (zS [zF 49 0 5,zL 50 49,zO 51 (.bin .eql (.t 50) (.k (.int .u8 2))),zM 52 51,zG 53 (.faddr 2 (.t 5)) 52 true,zG 54 (.load (.t 53)) 52 true,⟨some 55,(.call (.f 96) [.t 54]),(some (52,true))⟩,zG 56 (.un .not (.t 55)) 52 true,zO 57 (.pick (.t 52) (.t 56) (.k (.bool false))),zM 48 57]
 (.cond (.t 48) (zS [zK 6 (.int .i64 3)]
 .ret)
 (zS [zM 59 8,zO 60 (.bin .eql (.t 59) (.k (.int .i64 0))),zM 61 60,zG 62 (.faddr 0 (.t 5)) 61 true,zG 63 (.load (.t 62)) 61 true,zG 64 (.bin .eql (.t 63) (.k (.int .u8 4))) 61 true,zV 65 64 61 true,zG 66 (.faddr 0 (.t 5)) 65 false,zG 67 (.load (.t 66)) 65 false,zG 68 (.bin .eql (.t 67) (.k (.int .u8 5))) 65 false,zG 69 (.pick (.t 65) (.k (.bool true)) (.t 68)) 61 true,zO 70 (.pick (.t 61) (.t 69) (.k (.bool false))),zM 58 70]
 (.cond (.t 58) (zS [zK 6 (.int .i64 8)]
 .ret)
 (zS [zM 72 8,zO 73 (.bin .gtr (.t 72) (.k (.int .i64 0))),zM 74 73,zG 75 (.faddr 0 (.t 5)) 74 true,zG 76 (.load (.t 75)) 74 true,zG 77 (.bin .eql (.t 76) (.k (.int .u8 6))) 74 true,zO 78 (.pick (.t 74) (.t 77) (.k (.bool false))),zM 71 78]
 (.cond (.t 71) (zS [zK 6 (.int .i64 8)]
 .ret)
 (zS [zM 80 8,zO 81 (.bin .geq (.t 80) (.k (.int .i64 4))),zM 82 81,zG 83 (.faddr 0 (.t 5)) 82 true,zG 84 (.load (.t 83)) 82 true,zG 85 (.bin .eql (.t 84) (.k (.int .u8 3))) 82 true,zO 86 (.pick (.t 82) (.t 85) (.k (.bool false))),zM 79 86]
 (.cond (.t 79) (zS [zK 6 (.int .i64 4)]
 .ret)
 .skip)))))))))))))
 (zS [zK 6 (.int .i64 0)]
 .ret)))))
def a84:AF:=⟨87,[.t 6],.code b84,none⟩
def b85:AC:=
 (zS [zO 6 (.alloc 63 [(.bool false),(.int .u64 0),(.bool false),(.int .i64 0),(.bool false),(.int .u8 0),(.int .i64 0)])]
 (.seq (zS [zM 12 2,zU 13 12,zF 14 7 13,zL 15 14]
 (.block 0 (zS [zO 57 (.bin .eql (.t 15) (.k (.int .i64 4))),zM 56 57]
 (.cond (.t 56) (zS [zM 59 0,zU 60 59,zF 61 0 60,zL 62 61,zC 63 (.f 80) [.t 62],zM 58 63,zO 64 (.extract (.t 58) 0),zO 65 (.extract (.t 58) 1),zM 7 64,zM 8 65]
 (.seq (zS [zM 66 8,zO 67 (.bin .neq (.t 66) (.k (.int .i64 0)))]
 (.cond (.t 67) (zS [zM 69 0,zU 70 69,zF 71 0 70,zL 72 71,zC 73 (.f 94) [.t 72],zM 68 73,zO 74 (.extract (.t 68) 0),zO 75 (.extract (.t 68) 1),zM 9 74,zM 10 75]
 (zS [zM 76 9,zO 77 (.build [(.bool false),(.int .u64 0),(.bool false),(.int .i64 0),(.bool false),(.int .u8 0),(.int .i64 0)] [(2,1,(.k (.bool true))),(3,1,(.t 76))]),zT 7 6 77]
 .ret))
 .skip))
 (.reg [zM 78 2,zM 79 2,zM 80 2,zM 81 7,zU 82 78,zF 83 10 82,zT 1 83 81,zU 84 79,zF 85 7 84,zN (.store 1 (.t 85) (.k (.int .i64 5))),zU 86 80,zF 87 9 86,zN (.store 1 (.t 87) (.k (.int .i64 0)))])))
 (zS [zO 89 (.bin .eql (.t 15) (.k (.int .i64 5))),zM 88 89]
 (.cond (.t 88) (zS [zM 90 2,zU 91 90,zF 92 0 91,zL 93 92,zC 94 (.f 92) [.t 93],zM 11 94]
 (.seq (zS [zM 95 2,zU 96 95,zF 97 9 96,zL 98 97,zM 99 11,zE 100 99,zB 101 .eql 98 100]
 (.cond (.t 101) (zS [zM 102 2,zU 103 102,zF 104 7 103,zN (.store 1 (.t 104) (.k (.int .i64 6)))]
 (.exit 0))
 .skip))
 (.seq (.seq (.dreg (zQ (zM 105 0) (zQ (zU 106 105) (zQ (zF 107 1 106) (zQ (zL 108 107) (zQ (zM 109 11) (zQ (zM 110 2) (zQ (zU 111 110) (zQ (zF 112 9 111) (zQ (zL 113 112) (zQ (zI 114 3 109 113) (zQ (zF 115 0 114) (zQ (zL 116 115) (zQ (zI 117 1 108 116) (zQ (zL 118 117) (zQ (zM 119 11) (zQ (zM 120 2) (zQ (zU 121 120) (zQ (zF 122 9 121) (zQ (zL 123 122) (zQ (zI 124 3 119 123) (zQ (zF 125 1 124) (zQ (zL 126 125) (.loud (zC 127 (.f 133) [.t 118,.t 126]) [] (zQ (zO 128 (.un .not (.t 127))) .nil)))))))))))))))))))))))))
 (.cond (.t 128) (zS [zM 129 0,zM 130 1,zC 131 (.f 86) [.t 129,.t 130,(.k (.int .u8 1))],zT 7 6 131]
 .ret)
 .skip))
 (.reg [zM 132 2,zU 133 132,zF 134 9 133,zL 135 134,zO 136 (.bin .add (.t 135) (.k (.int .i64 1))),zU 137 132,zF 138 9 137,zT 1 138 136]))))
 (zS [zM 16 2,zU 17 16,zF 18 7 17,zN (.store 1 (.t 18) (.k (.int .i64 4)))]
 (.seq (.dreg (zQ (zM 19 0) (zQ (zU 20 19) (zQ (zF 21 0 20) (zQ (zL 22 21) (zQ (zM 23 2) (zQ (zU 24 23) (zQ (zF 25 10 24) (zQ (zL 26 25) (.loud (zC 27 (.f 134) [.t 22,.t 26]) [] .nil))))))))))
 (.cond (.t 27) (.seq (.dreg (zQ (zM 28 2) (zQ (zM 29 2) (zQ (zM 30 2) (zQ (zU 31 30) (zQ (zF 32 10 31) (zQ (zL 33 32) (zQ (zM 34 2) (zQ (zU 35 34) (zQ (zF 36 8 35) (zQ (zL 37 36) (zQ (zU 38 28) (zQ (zF 39 3 38) (.loud (zT 1 39 33) [] (zQ (zU 40 29) (zQ (zF 41 7 40) (.loud (zT 1 41 37) [] .nil)))))))))))))))))
 (.dreg (zQ (zM 42 0) (zQ (zU 43 42) (zQ (zF 44 4 43) (zQ (zL 45 44) (zQ (zM 46 2) (zQ (zU 47 46) (zQ (zF 48 2 47) (zQ (zL 49 48) (zQ (zM 50 2) (zQ (zU 51 50) (zQ (zF 52 10 51) (zQ (zL 53 52) (zQ (zO 54 (.bin .add (.t 53) (.k (.int .u64 1)))) (zQ (zI 55 1 45 49) (.loud (zT 1 55 54) [] .nil)))))))))))))))))
 .skip)))))))))
 (zS [zO 139 (.build [(.bool false),(.int .u64 0),(.bool false),(.int .i64 0),(.bool false),(.int .u8 0),(.int .i64 0)] []),zT 7 6 139]
 .ret)))
def a85:AF:=⟨140,[(.c 6 true 7)],.code b85,none⟩
def b86:AC:=
 (zS [zO 6 (.alloc 63 [(.bool false),(.int .u64 0),(.bool false),(.int .i64 0),(.bool false),(.int .u8 0),(.int .i64 0)])]
 (zS [zM 8 0,zU 9 8,zF 10 2 9,zL 11 10,zM 12 1,zO 13 (.lookup false (.pointer none) false (.t 11) (.t 12)),zM 7 13]
 (zS [zM 14 0,zU 15 14,zF 16 2 15,zL 17 16,zM 18 1,zN (.delete false (.t 17) (.t 18))]
 (zS [zM 19 0,zU 20 19,zF 21 0 20,zL 22 21,zM 23 1,zC 24 (.f 135) [.t 22,.t 23]]
 (.seq (.dreg (zQ (zM 25 0) (zQ (zU 26 25) (zQ (zF 27 5 26) (zQ (zL 28 27) (zQ (zM 29 7) (zQ (zU 30 29) (zQ (zF 31 2 30) (zQ (zL 32 31) (zQ (zM 33 2) (zQ (zI 34 1 28 32) (.loud (zT 1 34 33) [] .nil))))))))))))
 (zS [zM 35 0,zM 36 7,zU 37 36,zF 38 2 37,zL 39 38,zO 40 (.build [(.int .u8 0),(.int .i64 0),(.int .i64 0),(.int .u64 0)] [(0,1,(.k (.int .u8 9))),(1,1,(.t 39))]),zC 41 (.f 83) [.t 35,.t 40]]
 (zS [zM 42 2,zO 43 (.build [(.bool false),(.int .u64 0),(.bool false),(.int .i64 0),(.bool false),(.int .u8 0),(.int .i64 0)] [(0,1,(.k (.bool true))),(4,1,(.k (.bool true))),(5,1,(.t 42))]),zT 7 6 43]
 .ret)))))))
def a86:AF:=⟨44,[(.c 6 true 7)],.code b86,none⟩
def b87:AC:=
 (zS [zO 6 (.alloc 63 [(.bool false),(.int .u64 0),(.bool false),(.int .i64 0),(.bool false),(.int .u8 0),(.int .i64 0)])]
 (zS [zM 8 2,zU 9 8,zF 10 1 9,zL 11 10,zC 12 (.f 93) [.t 11],zM 7 12]
 (.seq (zS [zM 13 2,zU 14 13,zF 15 7 14,zL 16 15]
 (.block 0 (zS [zO 27 (.bin .eql (.t 16) (.k (.int .i64 0))),zM 26 27]
 (.cond (.t 26) (zS [zM 28 0,zM 29 2,zU 30 29,zF 31 2 30,zL 32 31,zO 33 (.build [(.int .u8 0),(.int .i64 0),(.int .i64 0),(.int .u64 0)] [(0,1,(.k (.int .u8 7))),(1,1,(.t 32))]),zC 34 (.f 83) [.t 28,.t 33]]
 (.seq (zS [zM 35 7,zE 36 35,zO 37 (.bin .eql (.t 36) (.k (.int .i64 0)))]
 (.cond (.t 37) (zS [zM 38 0,zM 39 1,zC 40 (.f 136) [.t 38,.t 39],zT 7 6 40]
 .ret)
 .skip))
 (.reg [zM 41 2,zU 42 41,zF 43 7 42,zN (.store 1 (.t 43) (.k (.int .i64 1)))])))
 (zS [zO 45 (.bin .eql (.t 16) (.k (.int .i64 1))),zM 44 45]
 (.cond (.t 44) (.seq (.dreg (zQ (zM 46 0) (zQ (zU 47 46) (zQ (zF 48 0 47) (zQ (zL 49 48) (zQ (zM 50 1) (zQ (zM 51 2) (zQ (zU 52 51) (zQ (zF 53 3 52) (zQ (zL 54 53) (.loud (zC 55 (.f 137) [.t 49,.t 50,.t 54]) [] .nil)))))))))))
 (.block 1 (zS [zO 59 (.bin .eql (.t 55) (.k (.int .i64 0))),zM 58 59]
 (.cond (.t 58) (zS [zM 60 2,zM 61 2,zM 62 2,zU 63 60,zF 64 12 63,zN (.store 1 (.t 64) (.k (.bool true))),zU 65 61,zF 66 7 65,zN (.store 1 (.t 66) (.k (.int .i64 2))),zU 67 62,zF 68 9 67,zN (.store 1 (.t 68) (.k (.int .i64 0)))]
 (.dreg (zQ (zM 69 0) (zQ (zU 70 69) (zQ (zF 71 4 70) (zQ (zL 72 71) (zQ (zM 73 2) (zQ (zU 74 73) (zQ (zF 75 2 74) (zQ (zL 76 75) (zQ (zM 77 2) (zQ (zU 78 77) (zQ (zF 79 3 78) (zQ (zL 80 79) (zQ (zO 81 (.bin .add (.t 80) (.k (.int .u64 2)))) (zQ (zI 82 1 72 76) (.loud (zT 1 82 81) [] .nil)))))))))))))))))
 (zS [zO 84 (.bin .eql (.t 55) (.k (.int .i64 4))),zM 83 84]
 (.cond (.t 83) (zS [zM 85 0,zM 86 1,zC 87 (.f 86) [.t 85,.t 86,(.k (.int .u8 2))],zT 7 6 87]
 .ret)
 (zS [zM 56 2,zC 57 (.f 138) [.t 56,(.k (.int .i64 1))],zT 7 6 57]
 .ret)))))))
 (zS [zO 89 (.bin .eql (.t 16) (.k (.int .i64 2))),zM 88 89]
 (.cond (.t 88) (.seq (.dreg (zQ (zM 90 0) (zQ (zU 91 90) (zQ (zF 92 1 91) (zQ (zL 93 92) (zQ (zM 94 7) (zQ (zM 95 2) (zQ (zU 96 95) (zQ (zF 97 9 96) (zQ (zL 98 97) (zQ (zI 99 2 94 98) (zQ (zF 100 0 99) (zQ (zL 101 100) (zQ (zM 102 7) (zQ (zM 103 2) (zQ (zU 104 103) (zQ (zF 105 9 104) (zQ (zL 106 105) (zQ (zI 107 2 102 106) (zQ (zF 108 1 107) (zQ (zL 109 108) (zQ (zI 110 1 93 101) (.loud (zT 1 110 109) [] .nil)))))))))))))))))))))))
 (zS [zM 111 2,zU 112 111,zF 113 9 112,zL 114 113,zO 115 (.bin .add (.t 114) (.k (.int .i64 1))),zU 116 111,zF 117 9 116,zT 1 117 115]
 (zS [zM 118 2,zU 119 118,zF 120 9 119,zL 121 120,zM 122 7,zE 123 122,zB 124 .eql 121 123]
 (.cond (.t 124) (.reg [zM 125 2,zU 126 125,zF 127 7 126,zN (.store 1 (.t 127) (.k (.int .i64 3)))])
 .skip))))
 (zS [zM 17 0,zU 18 17,zF 19 0 18,zL 20 19,zM 21 1,zC 22 (.f 139) [.t 20,.t 21]]
 (zS [zM 23 0,zM 24 1,zC 25 (.f 136) [.t 23,.t 24],zT 7 6 25]
 .ret))))))))))
 (zS [zO 128 (.build [(.bool false),(.int .u64 0),(.bool false),(.int .i64 0),(.bool false),(.int .u8 0),(.int .i64 0)] []),zT 7 6 128]
 .ret))))
def a87:AF:=⟨129,[(.c 6 true 7)],.code b87,none⟩
def b88:AC:=
 (zS [zO 3 (.box 3 (.t 1)),zO 4 (.alloc 49 [(.int .u64 0)]),zO 5 (.alloc 4 [(.bool false)])]
 (.seq (zS [zM 9 0,zO 10 (.eq false .ptr (.t 9) (.k (.pointer none)))]
 (.cond (.t 10) (zS [zN (.store 1 (.t 4) (.k (.int .u64 0))),zN (.store 1 (.t 5) (.k (.bool false)))]
 .ret)
 .skip))
 (.seq (zS [zM 11 0,zU 12 11,zF 13 0 12,zL 14 13,zC 15 (.f 140) [.t 14]]
 (.block 0 (.rfunc (.t 15) [16] (.reg [zM 6 16])
  (.block 1 (zS [zM 18 6,zL 19 3,zC 20 (.f 141) [.t 18,.t 19],zM 17 20,zO 21 (.extract (.t 17) 0),zO 22 (.extract (.t 17) 1),zM 7 21,zM 8 22]
  (zS [zM 23 8]
  (.cond (.t 23) (zS [zM 24 7,zT 1 4 24,zN (.store 1 (.t 5) (.k (.bool true)))]
  .ret)
  .skip)))))))
 (zS [zN (.store 1 (.t 4) (.k (.int .u64 0))),zN (.store 1 (.t 5) (.k (.bool false)))]
 .ret))))
def a88:AF:=⟨25,[(.c 4 false 1),(.c 5 false 1)],.code b88,none⟩
def b89:AC:=
 (zS [zO 6 (.alloc 63 [(.bool false),(.int .u64 0),(.bool false),(.int .i64 0),(.bool false),(.int .u8 0),(.int .i64 0)])]
 (.seq (.dreg (zQ (zM 7 0) (zQ (zM 8 1) (zQ (zU 9 8) (zQ (zF 10 2 9) (zQ (zL 11 10) (zQ (zM 12 1) (zQ (zU 13 12) (zQ (zF 14 4 13) (zQ (zF 15 1 14) (zQ (zL 16 15) (zQ (zM 17 2) (zQ (zO 18 (.build [(.int .u8 0),(.int .i64 0),(.int .i64 0),(.int .u64 0)] [(0,1,(.k (.int .u8 2))),(1,1,(.t 11)),(2,1,(.t 16)),(3,1,(.t 17))])) (.loud (zC 19 (.f 83) [.t 7,.t 18]) [] .nil))))))))))))))
 (zS [zM 20 1,zM 21 2,zC 22 (.f 142) [.t 20,.t 21],zT 7 6 22]
 .ret)))
def a89:AF:=⟨23,[(.c 6 true 7)],.code b89,none⟩
def b90:AC:=
 (zS [zO 6 (.alloc 63 [(.bool false),(.int .u64 0),(.bool false),(.int .i64 0),(.bool false),(.int .u8 0),(.int .i64 0)])]
 (zS [zM 8 2,zU 9 8,zF 10 4 9,zF 11 1 10,zL 12 11,zM 7 12]
 (.seq (.block 0 (zS [zM 14 2,zU 15 14,zF 16 7 15,zL 17 16,zO 18 (.bin .eql (.t 17) (.k (.int .i64 0))),zM 13 18]
 (.cond (.t 13) (zS [zM 19 2,zM 20 2,zM 21 0,zU 22 21,zF 23 1 22,zL 24 23,zM 25 7,zI 26 1 24 25,zL 27 26,zU 28 19,zF 29 11 28,zT 1 29 27,zU 30 20,zF 31 7 30,zN (.store 1 (.t 31) (.k (.int .i64 1)))]
 (zS [zO 32 (.build [(.bool false),(.int .u64 0),(.bool false),(.int .i64 0),(.bool false),(.int .u8 0),(.int .i64 0)] []),zT 7 6 32]
 .ret))
 (.seq (.dreg (zQ (zM 34 0) (zQ (zU 35 34) (zQ (zF 36 0 35) (zQ (zL 37 36) (zQ (zM 38 2) (zQ (zU 39 38) (zQ (zF 40 3 39) (zQ (zL 41 40) (.loud (zC 42 (.f 134) [.t 37,.t 41]) [] (zQ (zO 43 (.un .not (.t 42))) (.loud (zM 33 43) [] .nil))))))))))))
 (.cond (.t 33) (zS [zM 44 2,zC 45 (.f 138) [.t 44,(.k (.int .i64 0))],zT 7 6 45]
 .ret)
 (.seq (.dreg (zQ (zM 47 2) (zQ (zU 48 47) (zQ (zF 49 0 48) (zQ (zL 50 49) (zQ (zM 51 7) (zQ (zM 52 2) (zQ (zU 53 52) (zQ (zF 54 11 53) (zQ (zL 55 54) (zQ (zO 56 (.build [(.int .i64 0),(.int .u64 0),(.int .u64 0)] [(0,1,(.t 51)),(1,1,(.t 55))])) (.loud (zC 57 (.f 143) [.t 50,.t 56]) [] (zQ (zO 58 (.bin .neq (.t 57) (.k (.int .i64 0)))) (.loud (zM 46 58) [] .nil))))))))))))))
 (.cond (.t 46) (zS [zM 59 0,zM 60 1,zC 61 (.f 86) [.t 59,.t 60,(.k (.int .u8 2))],zT 7 6 61]
 .ret)
 .skip)))))))
 (zS [zM 62 0,zM 63 2,zM 64 2,zU 65 64,zF 66 11 65,zL 67 66,zC 68 (.f 89) [.t 62,.t 63,.t 67],zT 7 6 68]
 .ret))))
def a90:AF:=⟨69,[(.c 6 true 7)],.code b90,none⟩
def b91:AC:=
 (zS [zO 6 (.alloc 63 [(.bool false),(.int .u64 0),(.bool false),(.int .i64 0),(.bool false),(.int .u8 0),(.int .i64 0)])]
 (zS [zM 8 2,zU 9 8,zF 10 2 9,zL 11 10,zO 12 (.build [(.int .u8 0),(.int .i64 0),(.int .i64 0),(.int .u64 0)] [(1,1,(.t 11))]),zO 7 (.alloc 84 [(.int .u8 0),(.int .i64 0),(.int .i64 0),(.int .u64 0)]),zT 4 7 12]
 (.seq (zS [zM 13 2,zU 14 13,zF 15 4 14,zF 16 0 15,zL 17 16]
 (.block 0 (.seq (.block 5 (.block 4 (.seq (.block 3 (.seq (.block 2 (.seq (.block 1 (.seq (.seq (zS [zO 19 (.bin .eql (.t 17) (.k (.int .u8 3))),zM 18 19]
 (.cond (.t 18) (.exit 1)
 .skip))
 (.seq (zS [zO 21 (.bin .eql (.t 17) (.k (.int .u8 4))),zM 20 21]
 (.cond (.t 20) (.exit 2)
 .skip))
 (.seq (zS [zO 23 (.bin .eql (.t 17) (.k (.int .u8 5))),zM 22 23]
 (.cond (.t 22) (.exit 3)
 .skip))
 (zS [zO 25 (.bin .eql (.t 17) (.k (.int .u8 2))),zM 24 25]
 (.cond (.t 24) (.exit 4)
 .skip)))))
 (.exit 5)))
 (.seq (zS [zF 26 0 7,zN (.store 1 (.t 26) (.k (.int .u8 4)))]
 (.reg [zM 27 2,zU 28 27,zF 29 1 28,zL 30 29,zC 31 (.f 144) [.t 30]]))
 (.exit 0))))
 (.seq (zS [zF 32 0 7,zN (.store 1 (.t 32) (.k (.int .u8 5)))]
 (.reg [zM 33 2,zU 34 33,zF 35 1 34,zL 36 35,zC 37 (.f 145) [.t 36]]))
 (.exit 0))))
 (.seq (zS [zF 38 0 7,zN (.store 1 (.t 38) (.k (.int .u8 6)))]
 (.reg [zM 39 2,zU 40 39,zF 41 1 40,zL 42 41,zC 43 (.f 146) [.t 42]]))
 (.exit 0)))))
 (.seq (.seq (.dreg (zQ (zM 44 2) (zQ (zU 45 44) (zQ (zF 46 4 45) (zQ (zF 47 1 46) (zQ (zL 48 47) (zQ (zM 49 2) (zQ (zU 50 49) (zQ (zF 51 4 50) (zQ (zF 52 2 51) (zQ (zL 53 52) (zQ (zF 54 0 7) (.loud (zN (.store 1 (.t 54) (.k (.int .u8 3)))) [zL 53 52,zL 48 47] (zQ (zF 55 2 7) (.loud (zT 1 55 48) [zL 53 52] (zQ (zF 56 3 7) (.loud (zT 1 56 53) [] .nil)))))))))))))))))
 (.seq (.dreg (zQ (zM 57 2) (zQ (zU 58 57) (zQ (zF 59 1 58) (zQ (zL 60 59) (zQ (zF 61 2 7) (zQ (zL 62 61) (zQ (zF 63 3 7) (zQ (zL 64 63) (.loud (zC 65 (.f 147) [.t 60,.t 62,.t 64]) [] (zQ (zO 66 (.bin .neq (.t 65) (.k (.int .i64 0)))) .nil)))))))))))
 (.cond (.t 66) (zS [zM 67 0,zM 68 1,zC 69 (.f 86) [.t 67,.t 68,(.k (.int .u8 2))],zT 7 6 69]
 .ret)
 .skip)))
 (.exit 0)))))
 (zS [zM 70 0,zO 71 (.loadN 4 (.t 7)),zC 72 (.f 83) [.t 70,.t 71]]
 (zS [zM 73 2,zC 74 (.f 142) [.t 73,(.k (.int .u64 0))],zT 7 6 74]
 .ret)))))
def a91:AF:=⟨75,[(.c 6 true 7)],.code b91,none⟩
def b92:AC:=
 (zS [zK 2 (.slice none 0 0)]
 (.seq (zS [zM 6 0,zO 7 (.eq false .ptr (.t 6) (.k (.pointer none)))]
 (.cond (.t 7) (zS [zK 2 (.slice none 0 0)]
 .ret)
 .skip))
 (zS [zK 3 (.slice none 0 0)]
 (.seq (zS [zM 8 0,zU 9 8,zF 10 0 9,zL 11 10,zE 12 11,zK 13 (.int .i64 0)]
 (.block 0 (.loop (zS [zB 14 .lss 13 12]
  (.seq (.cond (.t 14) .skip
  (.exit 0))
  (.seq (.block 1 (zS [zI 15 1 11 13,zL 16 15,zM 5 16]
  (.reg [zM 17 3,zM 18 0,zU 19 18,zF 20 1 19,zL 21 20,zM 22 5,zO 23 (.lookup false (.agg #[(.int .i64 0),(.int .u64 0),(.int .u64 0)]) false (.t 21) (.t 22)),zO 24 (.bslice 155 [(.int .i64 0),(.int .u64 0),(.int .u64 0)] 1 [(0,3,(.t 23))]),zO 25 (.append 155 3 24 (.t 17) (.t 24)),zM 3 25])))
  (.reg [zO 26 (.bin .add (.t 13) (.k (.int .i64 1))),zM 13 26])))))))
 (zS [zM 27 3,zM 2 27]
 .ret)))))
def a92:AF:=⟨28,[.t 2],.code b92,none⟩
def b93:AC:=
 (zS [zK 2 (.slice none 0 0)]
 (zS [zK 3 (.slice none 0 0)]
 (.seq (zS [zK 7 (.int .i64 0)]
 (.block 0 (.loop (zS [zO 8 (.bin .lss (.t 7) (.k (.int .i64 12)))]
  (.seq (.cond (.t 8) .skip
  (.exit 0))
  (.seq (.block 1 (zS [zM 9 7,zM 4 9]
  (zS [zM 11 0,zM 12 4,zC 13 (.f 88) [.t 11,.t 12],zM 10 13,zO 14 (.extract (.t 10) 0),zO 15 (.extract (.t 10) 1),zM 5 14,zM 6 15]
  (zS [zM 16 6]
  (.cond (.t 16) (.reg [zM 17 3,zM 18 4,zM 19 5,zO 20 (.build [(.int .i64 0),(.int .u64 0)] [(0,1,(.t 18)),(1,1,(.t 19))]),zO 21 (.bslice 157 [(.int .i64 0),(.int .u64 0)] 1 [(0,2,(.t 20))]),zO 22 (.append 157 2 16 (.t 17) (.t 21)),zM 3 22])
  .skip)))))
  (.reg [zO 23 (.bin .add (.t 7) (.k (.int .i64 1))),zM 7 23])))))))
 (zS [zM 24 3,zM 2 24]
 .ret))))
def a93:AF:=⟨25,[.t 2],.code b93,none⟩
def b94:AC:=
 (zS [zK 2 (.int .i64 0),zK 3 (.bool false)]
 (.seq (zS [zM 4 0,zO 5 (.eq false .ptr (.t 4) (.k (.pointer none))),zM 6 5,zV 7 0 6 false,zG 8 (.nilchk (.t 7)) 6 false,zG 9 (.faddr 0 (.t 8)) 6 false,zG 10 (.load (.t 9)) 6 false,zG 11 (.eq false .ptr (.t 10) (.k (.pointer none))) 6 false,zO 12 (.pick (.t 6) (.k (.bool true)) (.t 11))]
 (.cond (.t 12) (zS [zK 2 (.int .i64 0),zK 3 (.bool false)]
 .ret)
 .skip))
 (zS [zM 13 0,zU 14 13,zF 15 0 14,zL 16 15,zU 17 16,zL 18 17,zM 2 18,zK 3 (.bool true)]
 .ret)))
def a94:AF:=⟨19,[.t 2,.t 3],.code b94,none⟩
def b95:AC:=
 (zS [zK 4 (.bool false)]
 (zS [zM 8 0,zM 9 1,zC 10 (.f 148) [.t 8,.t 9],zM 7 10,zO 11 (.extract (.t 7) 0),zO 12 (.extract (.t 7) 1),zM 5 11,zM 6 12]
 (zS [zM 13 0,zO 14 (.eq true .ptr (.t 13) (.k (.pointer none))),zM 15 14,zV 16 6 15 true,zG 17 (.un .not (.t 16)) 15 true,zO 18 (.pick (.t 15) (.t 17) (.k (.bool false))),zM 4 18]
 .ret)))
def a95:AF:=⟨19,[.t 4],.code b95,none⟩
end YtnemoimbeefngaaGreat
end Go.Proofs
