/-
  THE FUNCTIONS of this seat in their plain form, and that each is the loaded one's.
-/
import Derived.Test.YtnemoimbeefngaaGreatProg
import Derived.Test.YtnemoimbeefngaaGreatPA2
import Derived.Laws.Externs

set_option maxHeartbeats 32000000
set_option maxRecDepth 100000
namespace Go.Proofs
namespace YtnemoimbeefngaaGreat
open Go.Abs
abbrev zM (d s:Nat):AIns:=⟨some d,.op (.mv (.t s)),none⟩
abbrev zK (d:Nat) (v:Value):AIns:=⟨some d,.op (.mv (.k v)),none⟩
abbrev zO (d:Nat) (o:AOp):AIns:=⟨some d,.op o,none⟩
abbrev zG (d:Nat) (o:AOp) (g:Nat) (b:Bool):AIns:=⟨some d,.op o,some (g,b)⟩
abbrev zN (o:AOp):AIns:=⟨none,.op o,none⟩
abbrev zC (d:Nat) (f:Opd) (l:List Opd):AIns:=⟨some d,.call f l,none⟩
abbrev zS (l:List AIns) (t:AC):AC:=.seq (.reg l) t
abbrev zL (d a:Nat):AIns:=⟨some d,.op (.load (.t a)),none⟩
abbrev zF (d k a:Nat):AIns:=⟨some d,.op (.faddr k (.t a)),none⟩
abbrev zE (d a:Nat):AIns:=⟨some d,.op (.lenS (.t a)),none⟩
abbrev zB (d:Nat) (o:BinOp) (a b:Nat):AIns:=⟨some d,.op (.bin o (.t a) (.t b)),none⟩
abbrev zI (d s a b:Nat):AIns:=⟨some d,.op (.iaddrS s (.t a) (.t b)),none⟩
abbrev zT (s a b:Nat):AIns:=⟨none,.op (.store s (.t a) (.t b)),none⟩
abbrev zU (d a:Nat):AIns:=⟨some d,.op (.nilchk (.t a)),none⟩
abbrev zQ (i:AIns) (t:DT):DT:=.quiet i t
abbrev zV (d a g:Nat) (b:Bool):AIns:=⟨some d,.op (.mv (.t a)),some (g,b)⟩
attribute [simp] zM zK zO zG zN zC zS zL zF zE zB zI zT zU zQ zV
theorem okZ {P:Program} {ext:FuncId->Option Ext1} {f:FuncId} {fn:Func} {af:AF} (h1:P.funcs[f]?=some fn) (h2:fn.ntmps=af.n:=by kernel_rfl) (h3:(fn.body.bind fun c=> zO6 P ext fn.ntmps c)=some (af.body,af.rcv):=by kernel_rfl)
 (h4 : zDj P fn.ntmps fn.results.toList = some af.res := by kernel_rfl) (h5 : (fn.name == "runtime.NumGoroutine") = false := by kernel_rfl) : AFOk P ext f af := .of h1 h2 h3 h4 h5
def ext:FuncId->Option Ext1:=fun g=> if g=149 then some .frombits else none
def b3:AC:=
 (zS [zK 2 (.bool false)]
 (zS [zM 6 0,zC 7 (.f 8) [.t 6],zM 3 7]
 (.seq (zS [zC 8 (.f 9) [],zO 9 (.un .not (.t 8)),zM 10 9,zV 11 3 10 false,zG 12 (.eq false .ptr (.t 11) (.k (.pointer none))) 10 false,zO 13 (.pick (.t 10) (.k (.bool true)) (.t 12))]
 (.cond (.t 13) (zS [zK 2 (.bool false)]
 .ret)
 .skip))
 (zS [zM 15 3,zC 16 (.f 11) [.t 15],zC 17 (.f 12) [],zM 18 3,zC 19 (.f 13) [.t 18],zM 20 3,zC 21 (.f 14) [.t 20],zC 22 (.f 10) [.t 16,.t 17,.t 19,.t 21],zM 14 22,zO 23 (.extract (.t 14) 0),zO 24 (.extract (.t 14) 1),zM 4 23,zM 5 24]
 (zS [zM 25 5,zO 26 (.bin .eql (.t 25) (.k (.int .i64 0))),zM 2 26]
 .ret)))))
def a3:AF:=⟨27,[.t 2],.code b3,none⟩
def b4:AC:=
 (zS [zK 2 (.bool false)]
 (zS [zM 6 0,zC 7 (.f 8) [.t 6],zM 3 7]
 (.seq (zS [zC 8 (.f 9) [],zO 9 (.un .not (.t 8)),zM 10 9,zV 11 3 10 false,zG 12 (.eq false .ptr (.t 11) (.k (.pointer none))) 10 false,zO 13 (.pick (.t 10) (.k (.bool true)) (.t 12))]
 (.cond (.t 13) (zS [zK 2 (.bool false)]
 .ret)
 .skip))
 (zS [zM 15 3,zC 16 (.f 11) [.t 15],zC 17 (.f 12) [],zM 18 3,zC 19 (.f 13) [.t 18],zM 20 3,zC 21 (.f 14) [.t 20],zC 22 (.f 15) [.t 16,.t 17,.t 19,.t 21],zM 14 22,zO 23 (.extract (.t 14) 0),zO 24 (.extract (.t 14) 1),zM 4 23,zM 5 24]
 (zS [zM 25 5,zO 26 (.bin .eql (.t 25) (.k (.int .i64 0))),zM 27 26,zV 28 4 27 true,zG 29 (.lenS (.t 28)) 27 true,zV 30 3 27 true,⟨some 31,(.call (.f 16) [.t 30]),(some (27,true))⟩,zG 32 (.lenS (.t 31)) 27 true,zG 33 (.bin .eql (.t 29) (.t 32)) 27 true,zO 34 (.pick (.t 27) (.t 33) (.k (.bool false))),zM 35 34,zV 36 3 35 true,⟨some 37,(.call (.f 17) [.t 36]),(some (35,true))⟩,zG 38 (.bin .rem (.t 37) (.k (.int .u64 2))) 35 true,zG 39 (.bin .eql (.t 38) (.k (.int .u64 1))) 35 true,zV 40 39 35 true,zV 41 4 40 false,zV 42 3 40 false,⟨some 43,(.call (.f 16) [.t 42]),(some (40,false))⟩,⟨some 44,(.call (.f 18) [.t 41,.t 43]),(some (40,false))⟩,zG 45 (.pick (.t 40) (.k (.bool true)) (.t 44)) 35 true,zO 46 (.pick (.t 35) (.t 45) (.k (.bool false))),zM 2 46]
 .ret)))))
def a4:AF:=⟨47,[.t 2],.code b4,none⟩
def b8:AC:=
 (zS [zK 2 (.pointer none)]
 (zS [zC 6 (.f 12) [],zC 7 (.f 35) [.t 6],zM 3 7]
 (.seq (zS [zK 4 (.int .i64 0)]
 (.block 0 (.loop (.seq (zS [zM 8 4,zM 9 0,zE 10 9,zB 11 .lss 8 10,zM 12 11,zV 13 4 12 true,zG 14 (.bin .lss (.t 13) (.k (.int .i64 120))) 12 true,zO 15 (.pick (.t 12) (.t 14) (.k (.bool false))),zM 16 15,zV 17 3 16 true,zG 18 (.eq true .ptr (.t 17) (.k (.pointer none))) 16 true,zO 19 (.pick (.t 16) (.t 18) (.k (.bool false)))]
  (.cond (.t 19) .skip
  (.exit 0)))
  (.seq (.block 1 (zS [zM 22 0,zM 23 4,zI 24 5 22 23,zO 25 (.loadN 5 (.t 24)),zO 5 (.alloc 53 [(.int .i64 0),(.int .i64 0),(.int .u8 0),(.int .i64 0),(.int .u64 0)]),zT 5 5 25]
  (zS [zF 26 0 5,zL 27 26]
  (.block 2 (zS [zO 29 (.bin .eql (.t 27) (.k (.int .i64 0))),zM 28 29]
  (.cond (.t 28) (.reg [zM 30 3,zF 31 1 5,zL 32 31,zC 33 (.f 24) [.t 30,.t 32]])
  (zS [zO 35 (.bin .eql (.t 27) (.k (.int .i64 1))),zM 34 35]
  (.cond (.t 34) (.reg [zM 36 3,zF 37 1 5,zL 38 37,zF 39 2 5,zO 40 (.loadN 3 (.t 39)),zC 41 (.f 27) [.t 36,.t 38,.t 40]])
  (zS [zO 43 (.bin .eql (.t 27) (.k (.int .i64 2))),zM 42 43]
  (.cond (.t 42) (.reg [zM 44 3,zF 45 1 5,zL 46 45,zC 47 (.f 28) [.t 44,.t 46]])
  (zS [zO 49 (.bin .eql (.t 27) (.k (.int .i64 3))),zM 48 49]
  (.cond (.t 48) (.reg [zM 50 3,zF 51 1 5,zL 52 51,zC 53 (.f 29) [.t 50,.t 52]])
  .skip))))))))))))
  (.reg [zM 20 4,zO 21 (.bin .add (.t 20) (.k (.int .i64 1))),zM 4 21]))))))
 (zS [zM 54 3,zM 2 54]
 .ret))))
def a8:AF:=⟨55,[.t 2],.code b8,none⟩
def b9:AC:=
 (zS [zK 0 (.bool false)]
 (zS [zC 8 (.f 12) [],zC 9 (.f 35) [.t 8],zM 1 9]
 (zS [zM 11 1,zC 12 (.f 24) [.t 11,(.k (.int .i64 1))],zM 10 12,zO 13 (.extract (.t 10) 0),zO 14 (.extract (.t 10) 1),zM 2 13,zM 3 14]
 (zS [zM 15 1,zO 16 (.build [(.int .u8 0),(.int .i64 0),(.int .u64 0)] [(0,1,(.k (.int .u8 1))),(1,1,(.k (.int .i64 1)))]),zC 17 (.f 27) [.t 15,(.k (.int .i64 1)),.t 16],zM 4 17]
 (zS [zM 18 1,zC 19 (.f 28) [.t 18,(.k (.int .i64 1))]]
 (zS [zM 20 1,zC 21 (.f 28) [.t 20,(.k (.int .i64 1))],zO 5 (.alloc 63 [(.bool false),(.int .u64 0),(.bool false),(.int .i64 0),(.bool false),(.int .u8 0),(.int .i64 0)]),zT 7 5 21]
 (zS [zM 22 1,zO 23 (.build [(.int .u8 0),(.int .i64 0),(.int .u64 0)] [(0,1,(.k (.int .u8 6)))]),zC 24 (.f 27) [.t 22,(.k (.int .i64 1)),.t 23],zM 6 24]
 (zS [zM 25 1,zC 26 (.f 28) [.t 25,(.k (.int .i64 1))],zO 7 (.alloc 63 [(.bool false),(.int .u64 0),(.bool false),(.int .i64 0),(.bool false),(.int .u8 0),(.int .i64 0)]),zT 7 7 26]
 (zS [zM 27 2,zO 28 (.bin .eql (.t 27) (.k (.int .i64 0))),zM 29 28,zV 30 3 29 true,zG 31 (.bin .eql (.t 30) (.k (.int .i64 0))) 29 true,zO 32 (.pick (.t 29) (.t 31) (.k (.bool false))),zM 33 32,zV 34 4 33 true,zG 35 (.bin .eql (.t 34) (.k (.int .i64 0))) 33 true,zO 36 (.pick (.t 33) (.t 35) (.k (.bool false))),zM 37 36,zV 38 6 37 true,zG 39 (.bin .eql (.t 38) (.k (.int .i64 0))) 37 true,zO 40 (.pick (.t 37) (.t 39) (.k (.bool false))),zM 41 40,zG 42 (.faddr 0 (.t 5)) 41 true,zG 43 (.load (.t 42)) 41 true,zO 44 (.pick (.t 41) (.t 43) (.k (.bool false))),zM 45 44,zG 46 (.faddr 1 (.t 5)) 45 true,zG 47 (.load (.t 46)) 45 true,zG 48 (.bin .eql (.t 47) (.k (.int .u64 4607182418800017408))) 45 true,zO 49 (.pick (.t 45) (.t 48) (.k (.bool false))),zM 50 49,zG 51 (.faddr 4 (.t 7)) 50 true,zG 52 (.load (.t 51)) 50 true,zO 53 (.pick (.t 50) (.t 52) (.k (.bool false))),zM 54 53,zG 55 (.faddr 5 (.t 7)) 54 true,zG 56 (.load (.t 55)) 54 true,zG 57 (.bin .eql (.t 56) (.k (.int .u8 0))) 54 true,zO 58 (.pick (.t 54) (.t 57) (.k (.bool false))),zM 59 58,zV 60 1 59 true,⟨some 61,(.call (.f 11) [.t 60]),(some (59,true))⟩,zG 62 (.lenS (.t 61)) 59 true,zG 63 (.bin .eql (.t 62) (.k (.int .i64 4))) 59 true,zO 64 (.pick (.t 59) (.t 63) (.k (.bool false))),zM 0 64]
 .ret)))))))))
def a9:AF:=⟨65,[.t 0],.code b9,none⟩
def b10:AC:=
 (zS [zK 8 (.int .i64 0),zK 9 (.int .i64 0)]
 (.seq (zS [zM 17 0,zM 18 1,zC 19 (.f 37) [.t 17,.t 18,(.k (.slice none 0 0))],zM 10 19]
 (zS [zM 20 10,zO 21 (.bin .neq (.t 20) (.k (.int .i64 0)))]
 (.cond (.t 21) (zS [zM 22 10,zK 8 (.int .i64 0),zM 9 22]
 .ret)
 .skip)))
 (zS [zM 23 0,zC 24 (.f 38) [.t 23],zM 11 24]
 (.seq (zS [zM 25 2,zE 26 25,zM 27 11,zE 28 27,zB 29 .neq 26 28,zM 30 29,zV 31 2 30 false,⟨some 32,(.call (.f 39) [.t 31]),(some (30,false))⟩,zG 33 (.un .not (.t 32)) 30 false,zO 34 (.pick (.t 30) (.k (.bool true)) (.t 33))]
 (.cond (.t 34) (zS [zK 8 (.int .i64 0),zK 9 (.int .i64 2)]
 .ret)
 .skip))
 (.seq (zS [zK 12 (.int .i64 0)]
 (.block 0 (.loop (.seq (zS [zM 35 12,zM 36 2,zE 37 36,zB 38 .lss 35 37]
  (.cond (.t 38) .skip
  (.exit 0)))
  (.seq (.block 1 (zS [zM 41 11,zM 42 2,zM 43 12,zI 44 1 42 43,zL 45 44,zC 46 (.f 40) [.t 41,.t 45],zO 47 (.un .not (.t 46))]
  (.cond (.t 47) (zS [zK 8 (.int .i64 0),zK 9 (.int .i64 2)]
  .ret)
  .skip)))
  (.reg [zM 39 12,zO 40 (.bin .add (.t 39) (.k (.int .i64 1))),zM 12 40]))))))
 (.seq (zS [zM 48 0,zM 49 1,zM 50 3,zC 51 (.f 37) [.t 48,.t 49,.t 50],zM 13 51]
 (zS [zM 52 13,zO 53 (.bin .neq (.t 52) (.k (.int .i64 0)))]
 (.cond (.t 53) (zS [zM 54 13,zK 8 (.int .i64 0),zM 9 54]
 .ret)
 .skip)))
 (zS [zM 56 0,zM 57 1,zM 58 2,zM 59 3,zC 60 (.f 41) [.t 56,.t 57,.t 58,.t 59],zM 55 60,zO 61 (.extract (.t 55) 0),zO 62 (.extract (.t 55) 1),zO 63 (.extract (.t 55) 2),zM 14 61,zM 15 62,zM 16 63]
 (zS [zM 64 14,zM 65 15,zM 8 64,zM 9 65]
 .ret))))))))
def a10:AF:=⟨66,[.t 8,.t 9],.code b10,none⟩
def b11:AC:=
 (zS [zK 2 (.slice none 0 0)]
 (.seq (zS [zM 3 0,zO 4 (.eq false .ptr (.t 3) (.k (.pointer none)))]
 (.cond (.t 4) (zS [zK 2 (.slice none 0 0)]
 .ret)
 .skip))
 (zS [zM 5 0,zU 6 5,zF 7 3 6,zL 8 7,zC 9 (.f 42) [.t 8],zM 2 9]
 .ret)))
def a11:AF:=⟨10,[.t 2],.code b11,none⟩
def b12:AC:=
 (zS [zK 0 (.slice none 0 0)]
 (zS [zO 1 (.bslice 49 [(.int .u64 0),(.int .u64 0),(.int .u64 0),(.int .u64 0),(.int .u64 0)] 5 [(0,1,(.k (.int .u64 0))),(1,1,(.k (.int .u64 4607182418800017408))),(2,1,(.k (.int .u64 9221120237041090560))),(3,1,(.k (.int .u64 9223372036854775808))),(4,1,(.k (.int .u64 0)))]),zM 0 1]
 .ret))
def a12:AF:=⟨2,[.t 0],.code b12,none⟩
def b13:AC:=
 (zS [zO 1 (.box 23 (.t 0)),zK 2 (.slice none 0 0)]
 (.seq (zS [zL 5 1,zO 6 (.eq false .ptr (.t 5) (.k (.pointer none)))]
 (.cond (.t 6) (zS [zK 2 (.slice none 0 0)]
 .ret)
 .skip))
 (zS [zL 7 1,zU 8 7,zF 9 4 8,zL 10 9,zE 11 10,zO 12 (.mkslice 3 [(.int .i64 0)] 8 (.t 11) (.t 11)),zM 3 12]
 (.seq (zS [zM 13 3,zE 14 13,zK 15 (.int .i64 0)]
 (.block 0 (.loop (zS [zB 16 .lss 15 14]
  (.seq (.cond (.t 16) .skip
  (.exit 0))
  (.seq (.block 1 (zS [zM 17 15,zM 4 17]
  (.reg [zM 18 3,zM 19 4,zM 20 4,zI 21 1 18 19,zT 1 21 20])))
  (.reg [zO 22 (.bin .add (.t 15) (.k (.int .i64 1))),zM 15 22])))))))
 (zS [zM 23 3,zO 24 (.mkfunc 44 [] [.t 1]),zC 25 (.f 43) [.t 23,.t 24]]
 (zS [zM 26 3,zM 2 26]
 .ret))))))
def a13:AF:=⟨27,[.t 2],.code b13,none⟩
def b14:AC:=
 (zS [zK 2 (.slice none 0 0)]
 (.scope (zS [zK 3 (.slice none 0 0)]
 (.seq (.label 0)
 (.seq (zS [zK 6 (.int .i64 0)]
 (.block 0 (.loop (zS [zO 7 (.bin .lss (.t 6) (.k (.int .i64 4)))]
  (.seq (.cond (.t 7) .skip
  (.exit 0))
  (.seq (.block 1 (zS [zM 8 6,zM 4 8]
  (zS [zM 9 0,zM 10 4,zC 11 (.f 46) [.t 9,.t 10],zM 5 11]
  (.seq (zS [zM 12 5,zO 13 (.eq false .ptr (.t 12) (.k (.pointer none))),zM 14 13,zV 15 5 14 false,zG 16 (.nilchk (.t 15)) 14 false,zG 17 (.faddr 12 (.t 16)) 14 false,zG 18 (.load (.t 17)) 14 false,zG 19 (.un .not (.t 18)) 14 false,zO 20 (.pick (.t 14) (.k (.bool true)) (.t 19))]
  (.cond (.t 20) (.exit 1)
  .skip))
  (.reg [zM 21 3,zM 22 5,zU 23 22,zF 24 2 23,zL 25 24,zO 26 (.bslice 3 [(.int .i64 0)] 1 [(0,1,(.t 25))]),zO 27 (.append 3 1 8 (.t 21) (.t 26)),zM 3 27])))))
  (.reg [zO 28 (.bin .add (.t 6) (.k (.int .i64 1))),zM 6 28])))))))
 (zS [zM 29 3,zC 30 (.f 47) [.t 29]]
 (zS [zM 31 3,zM 2 31]
 .ret)))))))
def a14:AF:=⟨32,[.t 2],.code b14,none⟩
def b15:AC:=
 (zS [zK 8 (.slice none 0 0),zK 9 (.int .i64 0)]
 (.seq (zS [zM 16 0,zM 17 1,zM 18 2,zM 19 3,zC 20 (.f 10) [.t 16,.t 17,.t 18,.t 19],zM 15 20,zO 21 (.extract (.t 15) 0),zO 22 (.extract (.t 15) 1),zM 10 21,zM 11 22]
 (zS [zM 23 11,zO 24 (.bin .neq (.t 23) (.k (.int .i64 0)))]
 (.cond (.t 24) (zS [zM 25 11,zK 8 (.slice none 0 0),zM 9 25]
 .ret)
 .skip)))
 (zS [zM 27 0,zM 28 1,zM 29 2,zM 30 3,zC 31 (.f 41) [.t 27,.t 28,.t 29,.t 30],zM 26 31,zO 32 (.extract (.t 26) 0),zO 33 (.extract (.t 26) 1),zO 34 (.extract (.t 26) 2),zM 12 32,zM 13 33,zM 14 34]
 (zS [zM 35 14,zM 8 35,zK 9 (.int .i64 0)]
 .ret))))
def a15:AF:=⟨36,[.t 8,.t 9],.code b15,none⟩
def b16:AC:=
 (zS [zK 2 (.slice none 0 0)]
 (.seq (zS [zM 3 0,zO 4 (.eq false .ptr (.t 3) (.k (.pointer none)))]
 (.cond (.t 4) (zS [zK 2 (.slice none 0 0)]
 .ret)
 .skip))
 (zS [zM 5 0,zU 6 5,zF 7 1 6,zL 8 7,zC 9 (.f 48) [.t 8],zM 2 9]
 .ret)))
def a16:AF:=⟨10,[.t 2],.code b16,none⟩
def b17:AC:=
 (zS [zK 2 (.int .u64 0)]
 (.seq (zS [zM 3 0,zO 4 (.eq false .ptr (.t 3) (.k (.pointer none)))]
 (.cond (.t 4) (zS [zK 2 (.int .u64 0)]
 .ret)
 .skip))
 (zS [zM 5 0,zU 6 5,zF 7 0 6,zL 8 7,zC 9 (.f 49) [.t 8],zM 2 9]
 .ret)))
def a17:AF:=⟨10,[.t 2],.code b17,none⟩
def b18:AC:=
 (zS [zK 4 (.bool false)]
 (.seq (zS [zM 6 0,zE 7 6,zM 8 1,zE 9 8,zB 10 .neq 7 9]
 (.cond (.t 10) (zS [zK 4 (.bool false)]
 .ret)
 .skip))
 (.seq (zS [zK 5 (.int .i64 0)]
 (.block 0 (.loop (.seq (zS [zM 11 5,zM 12 0,zE 13 12,zB 14 .lss 11 13]
  (.cond (.t 14) .skip
  (.exit 0)))
  (.seq (.block 1 (.seq (.dreg (zQ (zM 17 0) (zQ (zM 18 5) (zQ (zI 19 1 17 18) (zQ (zL 20 19) (zQ (zM 21 1) (zQ (zM 22 5) (zQ (zI 23 1 21 22) (zQ (zL 24 23) (zQ (zB 25 .neq 20 24) .nil))))))))))
  (.cond (.t 25) (zS [zK 4 (.bool false)]
  .ret)
  .skip)))
  (.reg [zM 15 5,zO 16 (.bin .add (.t 15) (.k (.int .i64 1))),zM 5 16]))))))
 (zS [zK 4 (.bool true)]
 .ret))))
def a18:AF:=⟨26,[.t 4],.code b18,none⟩
def b24:AC:=
 (zS [zK 4 (.int .i64 0),zK 5 (.int .i64 0)]
 (.seq (zS [zM 10 0,zM 11 1,zC 12 (.f 79) [.t 10,.t 11],zM 6 12]
 (zS [zM 13 6,zO 14 (.bin .neq (.t 13) (.k (.int .i64 0)))]
 (.cond (.t 14) (zS [zM 15 6,zK 4 (.int .i64 0),zM 5 15]
 .ret)
 .skip)))
 (zS [zM 16 0,zU 17 16,zF 18 4 17,zL 19 18,zE 20 19,zM 7 20]
 (.seq (.block 0 (zS [zM 22 0,zU 23 22,zF 24 2 23,zL 25 24,zM 26 1,zO 27 (.lookup false (.pointer none) false (.t 25) (.t 26)),zO 28 (.eq true .ptr (.t 27) (.k (.pointer none))),zM 21 28]
 (.cond (.t 21) (zS [zK 4 (.int .i64 0),zK 5 (.int .i64 8)]
 .ret)
 (zS [zM 30 7,zO 31 (.bin .geq (.t 30) (.k (.int .i64 64))),zM 29 31]
 (.cond (.t 29) (zS [zK 4 (.int .i64 0),zK 5 (.int .i64 4)]
 .ret)
 .skip)))))
 (zS [zM 33 0,zU 34 33,zF 35 0 34,zL 36 35,zC 37 (.f 80) [.t 36],zM 32 37,zO 38 (.extract (.t 32) 0),zO 39 (.extract (.t 32) 1),zM 8 38,zM 9 39]
 (.seq (zS [zM 40 9,zO 41 (.bin .neq (.t 40) (.k (.int .i64 0)))]
 (.cond (.t 41) (zS [zM 42 9,zK 4 (.int .i64 0),zM 5 42]
 .ret)
 .skip))
 (.seq (.dreg (zQ (zM 43 0) (zQ (zU 44 43) (zQ (zF 45 2 44) (zQ (zL 46 45) (zQ (zM 47 1) (zQ (zM 50 7) (zQ (zM 51 8) (.loud (zC 48 (.f 81) []) [zL 46 45] (.loud (zC 49 (.f 82) []) [zL 46 45] (zQ (zO 52 (.build [(.pointer none),(.pointer none),(.int .i64 0),(.int .u64 0),(.int .u8 0),(.int .i64 0),(.int .u64 0),(.int .i64 0),(.int .i64 0),(.int .i64 0),(.int .u64 0),(.int .u64 0),(.bool false)] [(0,1,(.t 48)),(1,1,(.t 49)),(2,1,(.t 50)),(3,1,(.t 51))])) (.loud (zO 53 (.box 100 (.t 52))) [zL 46 45] (.loud (zN (.mapupd false (.t 46) (.t 47) (.t 53))) [] .nil)))))))))))))
 (zS [zM 54 0,zM 55 0,zU 56 55,zF 57 4 56,zL 58 57,zM 59 8,zO 60 (.bin .add (.t 59) (.k (.int .u64 1))),zO 61 (.bslice 38 [(.int .u64 0)] 1 [(0,1,(.t 60))]),zO 62 (.append 38 1 8 (.t 58) (.t 61)),zU 63 54,zF 64 4 63,zT 1 64 62]
 (zS [zM 65 0,zM 66 0,zU 67 66,zF 68 5 67,zL 69 68,zO 70 (.bslice 61 [(.int .u8 0)] 1 [(0,1,(.k (.int .u8 0)))]),zO 71 (.append 61 1 1 (.t 69) (.t 70)),zU 72 65,zF 73 5 72,zT 1 73 71]
 (zS [zM 74 0,zM 75 7,zO 76 (.build [(.int .u8 0),(.int .i64 0),(.int .i64 0),(.int .u64 0)] [(0,1,(.k (.int .u8 1))),(1,1,(.t 75))]),zC 77 (.f 83) [.t 74,.t 76]]
 (zS [zM 78 7,zM 4 78,zK 5 (.int .i64 0)]
 .ret)))))))))))
def a24:AF:=⟨79,[.t 4,.t 5],.code b24,none⟩
def b27:AC:=
 (zS [zO 5 (.box 51 (.t 2)),zK 6 (.int .i64 0)]
 (.seq (zS [zM 10 0,zM 11 1,zC 12 (.f 79) [.t 10,.t 11],zM 7 12]
 (zS [zM 13 7,zO 14 (.bin .neq (.t 13) (.k (.int .i64 0)))]
 (.cond (.t 14) (zS [zM 15 7,zM 6 15]
 .ret)
 .skip)))
 (zS [zM 16 0,zU 17 16,zF 18 2 17,zL 19 18,zM 20 1,zO 21 (.lookup false (.pointer none) false (.t 19) (.t 20)),zM 8 21]
 (.seq (zS [zM 22 8,zO 23 (.eq false .ptr (.t 22) (.k (.pointer none)))]
 (.cond (.t 23) (zS [zK 6 (.int .i64 8)]
 .ret)
 .skip))
 (.seq (zS [zM 24 8,zU 25 24,zF 26 4 25,zF 27 0 26,zL 28 27,zO 29 (.bin .neq (.t 28) (.k (.int .u8 0)))]
 (.cond (.t 29) (zS [zK 6 (.int .i64 7)]
 .ret)
 .skip))
 (zS [zM 30 0,zM 31 8,zO 32 (.loadN 3 (.t 5)),zC 33 (.f 84) [.t 30,.t 31,.t 32],zM 9 33]
 (.seq (zS [zM 34 9,zO 35 (.bin .eql (.t 34) (.k (.int .i64 0)))]
 (.cond (.t 35) (.reg [zM 36 8,zM 37 8,zM 38 8,zO 39 (.loadN 3 (.t 5)),zU 40 36,zF 41 4 40,zT 3 41 39,zU 42 37,zF 43 7 42,zN (.store 1 (.t 43) (.k (.int .i64 0))),zU 44 38,zF 45 9 44,zN (.store 1 (.t 45) (.k (.int .i64 0)))])
 .skip))
 (zS [zM 46 9,zM 6 46]
 .ret))))))))
def a27:AF:=⟨47,[.t 6],.code b27,none⟩
def b28:AC:=
 (zS [zO 4 (.alloc 63 [(.bool false),(.int .u64 0),(.bool false),(.int .i64 0),(.bool false),(.int .u8 0),(.int .i64 0)])]
 (.seq (zS [zM 9 0,zM 10 1,zC 11 (.f 79) [.t 9,.t 10],zM 5 11]
 (zS [zM 12 5,zO 13 (.bin .neq (.t 12) (.k (.int .i64 0)))]
 (.cond (.t 13) (zS [zM 14 5,zO 15 (.build [(.bool false),(.int .u64 0),(.bool false),(.int .i64 0),(.bool false),(.int .u8 0),(.int .i64 0)] [(6,1,(.t 14))]),zT 7 4 15]
 .ret)
 .skip)))
 (zS [zM 16 0,zU 17 16,zF 18 2 17,zL 19 18,zM 20 1,zO 21 (.lookup false (.pointer none) false (.t 19) (.t 20)),zM 6 21]
 (.seq (zS [zM 22 6,zO 23 (.eq false .ptr (.t 22) (.k (.pointer none))),zM 24 23,zV 25 6 24 false,zG 26 (.nilchk (.t 25)) 24 false,zG 27 (.faddr 4 (.t 26)) 24 false,zG 28 (.faddr 0 (.t 27)) 24 false,zG 29 (.load (.t 28)) 24 false,zG 30 (.bin .eql (.t 29) (.k (.int .u8 0))) 24 false,zO 31 (.pick (.t 24) (.k (.bool true)) (.t 30))]
 (.cond (.t 31) (zS [zO 32 (.build [(.bool false),(.int .u64 0),(.bool false),(.int .i64 0),(.bool false),(.int .u8 0),(.int .i64 0)] [(6,1,(.k (.int .i64 8)))]),zT 7 4 32]
 .ret)
 .skip))
 (.seq (zS [zM 33 6,zU 34 33,zF 35 7 34,zL 36 35,zO 37 (.bin .geq (.t 36) (.k (.int .i64 4)))]
 (.cond (.t 37) (zS [zM 38 0,zM 39 1,zM 40 6,zC 41 (.f 85) [.t 38,.t 39,.t 40],zT 7 4 41]
 .ret)
 .skip))
 (.seq (zS [zM 42 6,zU 43 42,zF 44 4 43,zF 45 0 44,zL 46 45]
 (.block 0 (zS [zO 48 (.bin .eql (.t 46) (.k (.int .u8 7))),zM 47 48]
 (.cond (.t 47) (zS [zM 49 0,zM 50 1,zC 51 (.f 86) [.t 49,.t 50,(.k (.int .u8 4))],zT 7 4 51]
 .ret)
 (zS [zO 53 (.bin .eql (.t 46) (.k (.int .u8 6))),zM 52 53]
 (.cond (.t 52) (zS [zM 54 0,zM 55 1,zM 56 6,zC 57 (.f 87) [.t 54,.t 55,.t 56],zT 7 4 57]
 .ret)
 (zS [zO 59 (.bin .eql (.t 46) (.k (.int .u8 1))),zM 58 59]
 (.cond (.t 58) (.seq (.seq (.dreg (zQ (zM 61 6) (zQ (zU 62 61) (zQ (zF 63 1 62) (zQ (zL 64 63) (zQ (zM 65 6) (zQ (zU 66 65) (zQ (zF 67 4 66) (zQ (zF 68 1 67) (zQ (zL 69 68) (.loud (zC 70 (.f 88) [.t 64,.t 69]) [] (zQ (zM 60 70) (zQ (zO 71 (.extract (.t 60) 0)) (zQ (zO 72 (.extract (.t 60) 1)) (.loud (zM 7 71) [] (.loud (zM 8 72) [] .nil))))))))))))))))
 (zS [zM 73 8]
 (.cond (.t 73) (zS [zM 74 0,zM 75 6,zM 76 7,zC 77 (.f 89) [.t 74,.t 75,.t 76],zT 7 4 77]
 .ret)
 .skip)))
 (zS [zM 78 0,zM 79 1,zM 80 6,zC 81 (.f 90) [.t 78,.t 79,.t 80],zT 7 4 81]
 .ret))
 .skip))))))))
 (zS [zM 82 0,zM 83 1,zM 84 6,zC 85 (.f 91) [.t 82,.t 83,.t 84],zT 7 4 85]
 .ret)))))))
def a28:AF:=⟨86,[(.c 4 true 7)],.code b28,none⟩
def b29:AC:=
 (zS [zK 4 (.int .i64 0)]
 (.seq (zS [zM 7 0,zM 8 1,zC 9 (.f 79) [.t 7,.t 8],zM 5 9]
 (zS [zM 10 5,zO 11 (.bin .neq (.t 10) (.k (.int .i64 0)))]
 (.cond (.t 11) (zS [zM 12 5,zM 4 12]
 .ret)
 .skip)))
 (zS [zM 13 0,zU 14 13,zF 15 2 14,zL 16 15,zM 17 1,zO 18 (.lookup false (.pointer none) false (.t 16) (.t 17)),zM 6 18]
 (.seq (zS [zM 19 6,zO 20 (.eq false .ptr (.t 19) (.k (.pointer none))),zM 21 20,zV 22 6 21 false,zG 23 (.nilchk (.t 22)) 21 false,zG 24 (.faddr 12 (.t 23)) 21 false,zG 25 (.load (.t 24)) 21 false,zO 26 (.pick (.t 21) (.k (.bool true)) (.t 25))]
 (.cond (.t 26) (zS [zK 4 (.int .i64 8)]
 .ret)
 .skip))
 (zS [zM 27 0,zM 28 1,zC 29 (.f 86) [.t 27,.t 28,(.k (.int .u8 3))]]
 (zS [zK 4 (.int .i64 0)]
 .ret))))))
def a29:AF:=⟨30,[.t 4],.code b29,none⟩
def b35:AC:=
 (zS [zK 2 (.pointer none)]
 (.seq (zS [zM 5 0,zE 6 5,zO 7 (.bin .lss (.t 6) (.k (.int .i64 1))),zM 8 7,zV 9 0 8 false,zG 10 (.lenS (.t 9)) 8 false,zG 11 (.bin .gtr (.t 10) (.k (.int .i64 12))) 8 false,zO 12 (.pick (.t 8) (.k (.bool true)) (.t 11))]
 (.cond (.t 12) (zS [zK 2 (.pointer none)]
 .ret)
 .skip))
 (.seq (zS [zM 13 0,zE 14 13,zK 15 (.int .i64 0)]
 (.block 0 (.loop (zS [zB 16 .lss 15 14]
  (.seq (.cond (.t 16) .skip
  (.exit 0))
  (.seq (.block 1 (zS [zI 17 1 13 15,zL 18 17,zM 4 18]
  (zS [zM 19 4,zC 20 (.f 96) [.t 19],zO 21 (.un .not (.t 20))]
  (.cond (.t 21) (zS [zK 2 (.pointer none)]
  .ret)
  .skip))))
  (.reg [zO 22 (.bin .add (.t 15) (.k (.int .i64 1))),zM 15 22])))))))
 (zS [zC 23 (.f 97) [],zM 24 0,zC 25 (.f 48) [.t 24],zO 26 (.mkmap),zO 27 (.build [(.pointer none),(.slice none 0 0),(.map none),(.slice none 0 0),(.slice none 0 0),(.slice none 0 0)] [(0,1,(.t 23)),(1,1,(.t 25)),(2,1,(.t 26))]),zO 28 (.box 90 (.t 27)),zM 2 28]
 .ret))))
def a35:AF:=⟨29,[.t 2],.code b35,none⟩
def b37:AC:=
 (zS [zK 6 (.int .i64 0)]
 (.seq (zS [zM 9 0,zC 10 (.f 99) [.t 9],zO 11 (.un .not (.t 10)),zM 12 11,zV 13 1 12 false,zG 14 (.lenS (.t 13)) 12 false,zG 15 (.bin .gtr (.t 14) (.k (.int .i64 12))) 12 false,zO 16 (.pick (.t 12) (.k (.bool true)) (.t 15))]
 (.cond (.t 16) (zS [zK 6 (.int .i64 3)]
 .ret)
 .skip))
 (.seq (zS [zK 7 (.int .i64 0)]
 (.block 0 (.loop (.seq (zS [zM 17 7,zM 18 1,zE 19 18,zB 20 .lss 17 19]
  (.cond (.t 20) .skip
  (.exit 0)))
  (.seq (.block 1 (zS [zM 23 1,zM 24 7,zI 25 1 23 24,zL 26 25,zC 27 (.f 98) [.t 26],zO 28 (.un .not (.t 27))]
  (.cond (.t 28) (zS [zK 6 (.int .i64 3)]
  .ret)
  .skip)))
  (.reg [zM 21 7,zO 22 (.bin .add (.t 21) (.k (.int .i64 1))),zM 7 22]))))))
 (.seq (zS [zK 8 (.int .i64 0)]
 (.block 2 (.loop (.seq (zS [zM 29 8,zM 30 2,zE 31 30,zB 32 .lss 29 31]
  (.cond (.t 32) .skip
  (.exit 2)))
  (.seq (.block 3 (.seq (.dreg (zQ (zM 35 0) (zQ (zM 36 2) (zQ (zM 37 8) (zQ (zI 38 1 36 37) (zQ (zL 39 38) (.loud (zC 40 (.f 100) [.t 35,.t 39]) [] (zQ (zO 41 (.bin .neq (.t 40) (.k (.int .u8 2)))) (zQ (zM 42 41) (zQ (zV 43 2 42 false) (zQ (zV 44 8 42 false) (zQ (zG 45 (.slice 1 (.t 43) none (some (.t 44)) none) 42 false) (zQ (zV 46 2 42 false) (zQ (zV 47 8 42 false) (zQ (zG 48 (.iaddrS 1 (.t 46) (.t 47)) 42 false) (zQ (zG 49 (.load (.t 48)) 42 false) (.loud ⟨some 50,(.call (.f 40) [.t 45,.t 49]),(some (42,false))⟩ [] (zQ (zO 51 (.pick (.t 42) (.k (.bool true)) (.t 50))) .nil))))))))))))))))))
  (.cond (.t 51) (zS [zK 6 (.int .i64 2)]
  .ret)
  .skip)))
  (.reg [zM 33 8,zO 34 (.bin .add (.t 33) (.k (.int .i64 1))),zM 8 34]))))))
 (zS [zK 6 (.int .i64 0)]
 .ret)))))
def a37:AF:=⟨52,[.t 6],.code b37,none⟩
def b38:AC:=
 (zS [zK 2 (.slice none 0 0)]
 (zS [zK 3 (.slice none 0 0)]
 (.seq (zS [zK 4 (.int .i64 0)]
 (.block 0 (.loop (.seq (zS [zM 5 4,zM 6 0,zE 7 6,zB 8 .lss 5 7]
  (.cond (.t 8) .skip
  (.exit 0)))
  (.seq (.block 1 (zS [zM 11 0,zM 12 4,zI 13 4 11 12,zF 14 0 13,zL 15 14,zO 16 (.bin .eql (.t 15) (.k (.int .u8 1))),zM 17 16,zV 18 0 17 true,zV 19 4 17 true,zV 20 0 17 true,zV 21 4 17 true,zG 22 (.iaddrS 4 (.t 20) (.t 21)) 17 true,zG 23 (.faddr 1 (.t 22)) 17 true,zG 24 (.load (.t 23)) 17 true,⟨some 25,(.call (.f 101) [.t 18,.t 19,.t 24,(.k (.int .u8 1))]),(some (17,true))⟩,zG 26 (.un .not (.t 25)) 17 true,zO 27 (.pick (.t 17) (.t 26) (.k (.bool false)))]
  (.cond (.t 27) (.reg [zM 28 3,zM 29 0,zM 30 4,zI 31 4 29 30,zF 32 1 31,zL 33 32,zO 34 (.bslice 3 [(.int .i64 0)] 1 [(0,1,(.t 33))]),zO 35 (.append 3 1 8 (.t 28) (.t 34)),zM 3 35])
  .skip)))
  (.reg [zM 9 4,zO 10 (.bin .add (.t 9) (.k (.int .i64 1))),zM 4 10]))))))
 (zS [zM 36 3,zM 2 36]
 .ret))))
def a38:AF:=⟨37,[.t 2],.code b38,none⟩
def b39:AC:=
 (zS [zK 2 (.bool false)]
 (.seq (zS [zK 3 (.int .i64 0)]
 (.block 0 (.loop (.seq (zS [zM 4 3,zM 5 0,zE 6 5,zB 7 .lss 4 6]
  (.cond (.t 7) .skip
  (.exit 0)))
  (.seq (.block 1 (.seq (.dreg (zQ (zM 10 0) (zQ (zM 11 3) (zQ (zO 12 (.slice 1 (.t 10) none (some (.t 11)) none)) (zQ (zM 13 0) (zQ (zM 14 3) (zQ (zI 15 1 13 14) (zQ (zL 16 15) (.loud (zC 17 (.f 40) [.t 12,.t 16]) [] .nil)))))))))
  (.cond (.t 17) (zS [zK 2 (.bool false)]
  .ret)
  .skip)))
  (.reg [zM 8 3,zO 9 (.bin .add (.t 8) (.k (.int .i64 1))),zM 3 9]))))))
 (zS [zK 2 (.bool true)]
 .ret)))
def a39:AF:=⟨18,[.t 2],.code b39,none⟩
def b40:AC:=
 (zS [zK 4 (.bool false)]
 (.seq (zS [zK 5 (.int .i64 0)]
 (.block 0 (.loop (.seq (zS [zM 6 5,zM 7 0,zE 8 7,zB 9 .lss 6 8]
  (.cond (.t 9) .skip
  (.exit 0)))
  (.seq (.block 1 (zS [zM 12 0,zM 13 5,zI 14 1 12 13,zL 15 14,zM 16 1,zB 17 .eql 15 16]
  (.cond (.t 17) (zS [zK 4 (.bool true)]
  .ret)
  .skip)))
  (.reg [zM 10 5,zO 11 (.bin .add (.t 10) (.k (.int .i64 1))),zM 5 11]))))))
 (zS [zK 4 (.bool false)]
 .ret)))
def a40:AF:=⟨18,[.t 4],.code b40,none⟩
def b41:AC:=
 (zS [zK 8 (.int .i64 0),zK 9 (.int .i64 0),zK 10 (.slice none 0 0)]
 (zS [zO 15 (.bslice 49 [] 0 []),zM 16 1,zO 17 (.append 49 1 8 (.t 15) (.t 16)),zM 11 17]
 (.seq (zS [zK 12 (.int .i64 0)]
 (.block 0 (.loop (.seq (zS [zM 18 12,zM 19 2,zE 20 19,zB 21 .lss 18 20]
  (.cond (.t 21) .skip
  (.exit 0)))
  (.seq (.block 1 (.seq (zS [zM 24 12,zO 25 (.bin .add (.t 24) (.k (.int .i64 1))),zM 13 25]
  (.block 2 (.loop (.seq (zS [zM 26 13,zM 27 2,zE 28 27,zB 29 .lss 26 28]
   (.cond (.t 29) .skip
   (.exit 2)))
   (.seq (.block 3 (.seq (.dreg (zQ (zM 32 0) (zQ (zM 33 2) (zQ (zM 34 13) (zQ (zI 35 1 33 34) (zQ (zL 36 35) (zQ (zM 37 2) (zQ (zM 38 12) (zQ (zI 39 1 37 38) (zQ (zL 40 39) (.loud (zC 41 (.f 102) [.t 32,.t 36,.t 40]) [] .nil)))))))))))
   (.cond (.t 41) (zS [zM 42 12,zM 8 42,zK 9 (.int .i64 8),zK 10 (.slice none 0 0)]
   .ret)
   .skip)))
   (.reg [zM 30 13,zO 31 (.bin .add (.t 30) (.k (.int .i64 1))),zM 13 31]))))))
  (zS [zM 43 0,zM 44 2,zM 45 12,zI 46 1 44 45,zL 47 46,zC 48 (.f 100) [.t 43,.t 47],zO 49 (.bin .eql (.t 48) (.k (.int .u8 3))),zM 50 49,zV 51 3 50 false,zV 52 2 50 false,zV 53 12 50 false,zG 54 (.iaddrS 1 (.t 52) (.t 53)) 50 false,zG 55 (.load (.t 54)) 50 false,⟨some 56,(.call (.f 40) [.t 51,.t 55]),(some (50,false))⟩,zO 57 (.pick (.t 50) (.k (.bool true)) (.t 56)),zM 14 57]
  (zS [zM 58 0,zM 59 11,zM 60 2,zM 61 12,zI 62 1 60 61,zL 63 62,zM 64 14,zC 65 (.f 103) [.t 58,.t 59,.t 63,.t 64],zO 66 (.un .not (.t 65))]
  (.cond (.t 66) (zS [zM 67 12,zM 8 67,zK 9 (.int .i64 9),zK 10 (.slice none 0 0)]
  .ret)
  .skip)))))
  (.reg [zM 22 12,zO 23 (.bin .add (.t 22) (.k (.int .i64 1))),zM 12 23]))))))
 (zS [zM 68 11,zK 8 (.int .i64 0),zK 9 (.int .i64 0),zM 10 68]
 .ret))))
def a41:AF:=⟨69,[.t 8,.t 9,.t 10],.code b41,none⟩
def b42:AC:=
 (zS [zK 2 (.slice none 0 0)]
 (.seq (zS [zM 3 0,⟨some 4,(.isnil false (.t 3)),none⟩]
 (.cond (.t 4) (zS [zK 2 (.slice none 0 0)]
 .ret)
 .skip))
 (zS [zO 5 (.bslice 84 [] 0 []),zM 6 0,zO 7 (.append 84 4 32 (.t 5) (.t 6)),zM 2 7]
 .ret)))
def a42:AF:=⟨8,[.t 2],.code b42,none⟩
def b43:AC:=
 (.reg [zM 4 0,zM 5 0,zE 6 5,zM 7 1,zC 8 (.f 104) [.t 4,.t 6,.t 7]])
def a43:AF:=⟨9,[],.code b43,none⟩
def b44:AC:=
 (zS [zK 5 (.int .i64 0)]
 (.seq (.dreg (zQ (zL 6 2) (zQ (zU 7 6) (zQ (zF 8 4 7) (zQ (zL 9 8) (zQ (zM 10 0) (zQ (zI 11 1 9 10) (zQ (zL 12 11) (zQ (zL 13 2) (zQ (zU 14 13) (zQ (zF 15 4 14) (zQ (zL 16 15) (zQ (zM 17 1) (zQ (zI 18 1 16 17) (zQ (zL 19 18) (.loud (zC 20 (.f 45) [.t 12,.t 19]) [] (.loud (zM 5 20) [] .nil)))))))))))))))))
 .ret))
def a44:AF:=⟨21,[.t 5],.code b44,none⟩
def b45:AC:=
 (zS [zK 4 (.int .i64 0)]
 (zS [zM 7 0,zC 8 (.f 105) [.t 7],zM 5 8]
 (zS [zM 9 1,zC 10 (.f 105) [.t 9],zM 6 10]
 (.seq (zS [zM 11 5]
 (.cond (.t 11) (.seq (zS [zM 12 6]
 (.cond (.t 12) (zS [zK 4 (.int .i64 0)]
 .ret)
 .skip))
 (zS [zK 4 (.int .i64 (-1))]
 .ret))
 .skip))
 (.seq (zS [zM 13 6]
 (.cond (.t 13) (zS [zK 4 (.int .i64 1)]
 .ret)
 .skip))
 (.seq (zS [zM 14 0,zM 15 1,zB 16 .lss 14 15]
 (.cond (.t 16) (zS [zK 4 (.int .i64 (-1))]
 .ret)
 .skip))
 (.seq (zS [zM 17 0,zM 18 1,zB 19 .gtr 17 18]
 (.cond (.t 19) (zS [zK 4 (.int .i64 1)]
 .ret)
 .skip))
 (zS [zK 4 (.int .i64 0)]
 .ret))))))))
def a45:AF:=⟨20,[.t 4],.code b45,none⟩
def b46:AC:=
 (zS [zK 4 (.pointer none)]
 (.seq (zS [zM 5 0,zO 6 (.eq false .ptr (.t 5) (.k (.pointer none)))]
 (.cond (.t 6) (zS [zK 4 (.pointer none)]
 .ret)
 .skip))
 (zS [zM 7 0,zU 8 7,zF 9 2 8,zL 10 9,zM 11 1,zO 12 (.lookup false (.pointer none) false (.t 10) (.t 11)),zM 4 12]
 .ret)))
def a46:AF:=⟨13,[.t 4],.code b46,none⟩
def b47:AC:=
 (zS [zM 3 0,zE 4 3,zM 2 4]
 (.reg [zM 5 0,zM 6 2,zM 7 2,zO 8 (.conv (.int .u64) (.t 7)),zC 9 (.f 107) [.t 8],zC 10 (.f 106) [.t 5,(.k (.int .i64 0)),.t 6,.t 9]]))
def a47:AF:=⟨11,[],.code b47,none⟩
def b48:AC:=
 (zS [zK 2 (.slice none 0 0)]
 (.seq (zS [zM 3 0,⟨some 4,(.isnil false (.t 3)),none⟩]
 (.cond (.t 4) (zS [zK 2 (.slice none 0 0)]
 .ret)
 .skip))
 (zS [zO 5 (.bslice 49 [] 0 []),zM 6 0,zO 7 (.append 49 1 8 (.t 5) (.t 6)),zM 2 7]
 .ret)))
def a48:AF:=⟨8,[.t 2],.code b48,none⟩
def b49:AC:=
 (zS [zK 2 (.int .u64 0)]
 (.seq (zS [zM 3 0,zO 4 (.eq false .ptr (.t 3) (.k (.pointer none)))]
 (.cond (.t 4) (zS [zK 2 (.int .u64 0)]
 .ret)
 .skip))
 (zS [zM 5 0,zU 6 5,zF 7 1 6,zL 8 7,zM 2 8]
 .ret)))
def a49:AF:=⟨9,[.t 2],.code b49,none⟩
def b79:AC:=
 (zS [zK 4 (.int .i64 0)]
 (.seq (.block 0 (zS [zM 6 0,zO 7 (.eq false .ptr (.t 6) (.k (.pointer none))),zM 5 7]
 (.cond (.t 5) (zS [zK 4 (.int .i64 1)]
 .ret)
 (zS [zM 9 1,zO 10 (.bin .lss (.t 9) (.k (.int .i64 0))),zM 11 10,zV 12 1 11 false,zG 13 (.bin .geq (.t 12) (.k (.int .i64 4))) 11 false,zO 14 (.pick (.t 11) (.k (.bool true)) (.t 13)),zM 8 14]
 (.cond (.t 8) (zS [zK 4 (.int .i64 2)]
 .ret)
 .skip)))))
 (zS [zK 4 (.int .i64 0)]
 .ret)))
def a79:AF:=⟨15,[.t 4],.code b79,none⟩
def b80:AC:=
 (zS [zO 1 (.box 85 (.t 0)),zO 2 (.alloc 38 [(.int .u64 0)]),zK 3 (.int .i64 0)]
 (zS [zO 4 (.mkfunc 129 [] [.t 1,.t 2]),zC 5 (.f 128) [.t 4],zM 3 5]
 (zS [zL 6 2,zM 7 3,zT 1 2 6,zM 3 7]
 .ret)))
def a80:AF:=⟨8,[(.c 2 false 1),.t 3],.code b80,none⟩
def b81:AC:=
 (zS [zK 0 (.pointer none)]
 (zS [zO 1 (.mkmap),zO 2 (.build [(.slice none 0 0),(.map none)] [(1,1,(.t 1))]),zO 3 (.box 163 (.t 2)),zM 0 3]
 .ret))
def a81:AF:=⟨4,[.t 0],.code b81,none⟩
def b82:AC:=
 (zS [zK 0 (.pointer none)]
 (zS [zK 1 (.pointer none)]
 (zS [zM 2 1,zC 3 (.f 131) [.t 2,(.k (.slice none 0 0))],zO 4 (.build [(.pointer none),(.int .i64 0)] [(0,1,(.t 3))]),zO 5 (.box 166 (.t 4)),zM 0 5]
 .ret)))
def a82:AF:=⟨6,[.t 0],.code b82,none⟩
def b83:AC:=
 (zS [zO 3 (.box 84 (.t 1))]
 (.dreg (zQ (zM 4 0) (zQ (zM 5 0) (zQ (zU 6 5) (zQ (zF 7 3 6) (zQ (zL 8 7) (zQ (zO 9 (.loadN 4 (.t 3))) (.loud (zO 10 (.bslice 84 [(.int .u8 0),(.int .i64 0),(.int .i64 0),(.int .u64 0)] 1 [(0,4,(.t 9))])) [zL 8 7] (.loud (zO 11 (.append 84 4 32 (.t 8) (.t 10))) [] (zQ (zU 12 4) (zQ (zF 13 3 12) (.loud (zT 1 13 11) [] .nil)))))))))))))
def a83:AF:=⟨14,[],.code b83,none⟩
def b84:AC:=
 (zS [zO 5 (.box 51 (.t 2)),zK 6 (.int .i64 0)]
 (zS [zF 9 0 5,zL 10 9,zO 11 (.bin .eql (.t 10) (.k (.int .u8 1))),zM 12 11,zG 13 (.faddr 0 (.t 5)) 12 false,zG 14 (.load (.t 13)) 12 false,zG 15 (.bin .eql (.t 14) (.k (.int .u8 2))) 12 false,zO 16 (.pick (.t 12) (.k (.bool true)) (.t 15)),zM 7 16]
 (zS [zM 17 1,zU 18 17,zF 19 1 18,zL 20 19,zC 21 (.f 132) [.t 20],zM 8 21]
 (.seq (.block 0 (zS [zF 23 0 5,zL 24 23,zO 25 (.bin .eql (.t 24) (.k (.int .u8 0))),zM 26 25,zG 27 (.faddr 0 (.t 5)) 26 false,zG 28 (.load (.t 27)) 26 false,zG 29 (.bin .gtr (.t 28) (.k (.int .u8 7))) 26 false,zO 30 (.pick (.t 26) (.k (.bool true)) (.t 29)),zM 22 30]
 (.cond (.t 22) (zS [zK 6 (.int .i64 2)]
 .ret)
 (.seq (.dreg (zQ (zM 32 7) (zQ (zM 33 32) (zQ (zG 34 (.faddr 1 (.t 5)) 33 true) (zQ (zG 35 (.load (.t 34)) 33 true) (zQ (zG 36 (.bin .lss (.t 35) (.k (.int .i64 0))) 33 true) (zQ (zV 37 36 33 true) (zQ (zG 38 (.faddr 1 (.t 5)) 37 false) (zQ (zG 39 (.load (.t 38)) 37 false) (zQ (zV 40 0 37 false) (zQ (zG 41 (.nilchk (.t 40)) 37 false) (zQ (zG 42 (.faddr 1 (.t 41)) 37 false) (zQ (zG 43 (.load (.t 42)) 37 false) (zQ (zG 44 (.lenS (.t 43)) 37 false) (zQ (zG 45 (.bin .geq (.t 39) (.t 44)) 37 false) (zQ (zG 46 (.pick (.t 37) (.k (.bool true)) (.t 45)) 33 true) (zQ (zO 47 (.pick (.t 33) (.t 46) (.k (.bool false)))) (.loud (zM 31 47) [] .nil))))))))))))))))))
 (.cond (.t 31) (zS [zK 6 (.int .i64 2)]
 .ret)
 (zS [zF 49 0 5,zL 50 49,zO 51 (.bin .eql (.t 50) (.k (.int .u8 2))),zM 52 51,zG 53 (.faddr 2 (.t 5)) 52 true,zG 54 (.load (.t 53)) 52 true,⟨some 55,(.call (.f 96) [.t 54]),(some (52,true))⟩,zG 56 (.un .not (.t 55)) 52 true,zO 57 (.pick (.t 52) (.t 56) (.k (.bool false))),zM 48 57]
 (.cond (.t 48) (zS [zK 6 (.int .i64 3)]
 .ret)
 (zS [zM 59 8,zO 60 (.bin .eql (.t 59) (.k (.int .i64 0))),zM 61 60,zG 62 (.faddr 0 (.t 5)) 61 true,zG 63 (.load (.t 62)) 61 true,zG 64 (.bin .eql (.t 63) (.k (.int .u8 4))) 61 true,zV 65 64 61 true,zG 66 (.faddr 0 (.t 5)) 65 false,zG 67 (.load (.t 66)) 65 false,zG 68 (.bin .eql (.t 67) (.k (.int .u8 5))) 65 false,zG 69 (.pick (.t 65) (.k (.bool true)) (.t 68)) 61 true,zO 70 (.pick (.t 61) (.t 69) (.k (.bool false))),zM 58 70]
 (.cond (.t 58) (zS [zK 6 (.int .i64 8)]
 .ret)
 (zS [zM 72 8,zO 73 (.bin .gtr (.t 72) (.k (.int .i64 0))),zM 74 73,zG 75 (.faddr 0 (.t 5)) 74 true,zG 76 (.load (.t 75)) 74 true,zG 77 (.bin .eql (.t 76) (.k (.int .u8 6))) 74 true,zO 78 (.pick (.t 74) (.t 77) (.k (.bool false))),zM 71 78]
 (.cond (.t 71) (zS [zK 6 (.int .i64 8)]
 .ret)
 (zS [zM 80 8,zO 81 (.bin .geq (.t 80) (.k (.int .i64 4))),zM 82 81,zG 83 (.faddr 0 (.t 5)) 82 true,zG 84 (.load (.t 83)) 82 true,zG 85 (.bin .eql (.t 84) (.k (.int .u8 3))) 82 true,zO 86 (.pick (.t 82) (.t 85) (.k (.bool false))),zM 79 86]
 (.cond (.t 79) (zS [zK 6 (.int .i64 4)]
 .ret)
 .skip)))))))))))))
 (zS [zK 6 (.int .i64 0)]
 .ret)))))
def a84:AF:=⟨87,[.t 6],.code b84,none⟩
def b85:AC:=
 (zS [zO 6 (.alloc 63 [(.bool false),(.int .u64 0),(.bool false),(.int .i64 0),(.bool false),(.int .u8 0),(.int .i64 0)])]
 (.seq (zS [zM 12 2,zU 13 12,zF 14 7 13,zL 15 14]
 (.block 0 (zS [zO 57 (.bin .eql (.t 15) (.k (.int .i64 4))),zM 56 57]
 (.cond (.t 56) (zS [zM 59 0,zU 60 59,zF 61 0 60,zL 62 61,zC 63 (.f 80) [.t 62],zM 58 63,zO 64 (.extract (.t 58) 0),zO 65 (.extract (.t 58) 1),zM 7 64,zM 8 65]
 (.seq (zS [zM 66 8,zO 67 (.bin .neq (.t 66) (.k (.int .i64 0)))]
 (.cond (.t 67) (zS [zM 69 0,zU 70 69,zF 71 0 70,zL 72 71,zC 73 (.f 94) [.t 72],zM 68 73,zO 74 (.extract (.t 68) 0),zO 75 (.extract (.t 68) 1),zM 9 74,zM 10 75]
 (zS [zM 76 9,zO 77 (.build [(.bool false),(.int .u64 0),(.bool false),(.int .i64 0),(.bool false),(.int .u8 0),(.int .i64 0)] [(2,1,(.k (.bool true))),(3,1,(.t 76))]),zT 7 6 77]
 .ret))
 .skip))
 (.reg [zM 78 2,zM 79 2,zM 80 2,zM 81 7,zU 82 78,zF 83 10 82,zT 1 83 81,zU 84 79,zF 85 7 84,zN (.store 1 (.t 85) (.k (.int .i64 5))),zU 86 80,zF 87 9 86,zN (.store 1 (.t 87) (.k (.int .i64 0)))])))
 (zS [zO 89 (.bin .eql (.t 15) (.k (.int .i64 5))),zM 88 89]
 (.cond (.t 88) (zS [zM 90 2,zU 91 90,zF 92 0 91,zL 93 92,zC 94 (.f 92) [.t 93],zM 11 94]
 (.seq (zS [zM 95 2,zU 96 95,zF 97 9 96,zL 98 97,zM 99 11,zE 100 99,zB 101 .eql 98 100]
 (.cond (.t 101) (zS [zM 102 2,zU 103 102,zF 104 7 103,zN (.store 1 (.t 104) (.k (.int .i64 6)))]
 (.exit 0))
 .skip))
 (.seq (.seq (.dreg (zQ (zM 105 0) (zQ (zU 106 105) (zQ (zF 107 1 106) (zQ (zL 108 107) (zQ (zM 109 11) (zQ (zM 110 2) (zQ (zU 111 110) (zQ (zF 112 9 111) (zQ (zL 113 112) (zQ (zI 114 3 109 113) (zQ (zF 115 0 114) (zQ (zL 116 115) (zQ (zI 117 1 108 116) (zQ (zL 118 117) (zQ (zM 119 11) (zQ (zM 120 2) (zQ (zU 121 120) (zQ (zF 122 9 121) (zQ (zL 123 122) (zQ (zI 124 3 119 123) (zQ (zF 125 1 124) (zQ (zL 126 125) (.loud (zC 127 (.f 133) [.t 118,.t 126]) [] (zQ (zO 128 (.un .not (.t 127))) .nil)))))))))))))))))))))))))
 (.cond (.t 128) (zS [zM 129 0,zM 130 1,zC 131 (.f 86) [.t 129,.t 130,(.k (.int .u8 1))],zT 7 6 131]
 .ret)
 .skip))
 (.reg [zM 132 2,zU 133 132,zF 134 9 133,zL 135 134,zO 136 (.bin .add (.t 135) (.k (.int .i64 1))),zU 137 132,zF 138 9 137,zT 1 138 136]))))
 (zS [zM 16 2,zU 17 16,zF 18 7 17,zN (.store 1 (.t 18) (.k (.int .i64 4)))]
 (.seq (.dreg (zQ (zM 19 0) (zQ (zU 20 19) (zQ (zF 21 0 20) (zQ (zL 22 21) (zQ (zM 23 2) (zQ (zU 24 23) (zQ (zF 25 10 24) (zQ (zL 26 25) (.loud (zC 27 (.f 134) [.t 22,.t 26]) [] .nil))))))))))
 (.cond (.t 27) (.seq (.dreg (zQ (zM 28 2) (zQ (zM 29 2) (zQ (zM 30 2) (zQ (zU 31 30) (zQ (zF 32 10 31) (zQ (zL 33 32) (zQ (zM 34 2) (zQ (zU 35 34) (zQ (zF 36 8 35) (zQ (zL 37 36) (zQ (zU 38 28) (zQ (zF 39 3 38) (.loud (zT 1 39 33) [] (zQ (zU 40 29) (zQ (zF 41 7 40) (.loud (zT 1 41 37) [] .nil)))))))))))))))))
 (.dreg (zQ (zM 42 0) (zQ (zU 43 42) (zQ (zF 44 4 43) (zQ (zL 45 44) (zQ (zM 46 2) (zQ (zU 47 46) (zQ (zF 48 2 47) (zQ (zL 49 48) (zQ (zM 50 2) (zQ (zU 51 50) (zQ (zF 52 10 51) (zQ (zL 53 52) (zQ (zO 54 (.bin .add (.t 53) (.k (.int .u64 1)))) (zQ (zI 55 1 45 49) (.loud (zT 1 55 54) [] .nil)))))))))))))))))
 .skip)))))))))
 (zS [zO 139 (.build [(.bool false),(.int .u64 0),(.bool false),(.int .i64 0),(.bool false),(.int .u8 0),(.int .i64 0)] []),zT 7 6 139]
 .ret)))
def a85:AF:=⟨140,[(.c 6 true 7)],.code b85,none⟩
def b86:AC:=
 (zS [zO 6 (.alloc 63 [(.bool false),(.int .u64 0),(.bool false),(.int .i64 0),(.bool false),(.int .u8 0),(.int .i64 0)])]
 (zS [zM 8 0,zU 9 8,zF 10 2 9,zL 11 10,zM 12 1,zO 13 (.lookup false (.pointer none) false (.t 11) (.t 12)),zM 7 13]
 (zS [zM 14 0,zU 15 14,zF 16 2 15,zL 17 16,zM 18 1,zN (.delete false (.t 17) (.t 18))]
 (zS [zM 19 0,zU 20 19,zF 21 0 20,zL 22 21,zM 23 1,zC 24 (.f 135) [.t 22,.t 23]]
 (.seq (.dreg (zQ (zM 25 0) (zQ (zU 26 25) (zQ (zF 27 5 26) (zQ (zL 28 27) (zQ (zM 29 7) (zQ (zU 30 29) (zQ (zF 31 2 30) (zQ (zL 32 31) (zQ (zM 33 2) (zQ (zI 34 1 28 32) (.loud (zT 1 34 33) [] .nil))))))))))))
 (zS [zM 35 0,zM 36 7,zU 37 36,zF 38 2 37,zL 39 38,zO 40 (.build [(.int .u8 0),(.int .i64 0),(.int .i64 0),(.int .u64 0)] [(0,1,(.k (.int .u8 9))),(1,1,(.t 39))]),zC 41 (.f 83) [.t 35,.t 40]]
 (zS [zM 42 2,zO 43 (.build [(.bool false),(.int .u64 0),(.bool false),(.int .i64 0),(.bool false),(.int .u8 0),(.int .i64 0)] [(0,1,(.k (.bool true))),(4,1,(.k (.bool true))),(5,1,(.t 42))]),zT 7 6 43]
 .ret)))))))
def a86:AF:=⟨44,[(.c 6 true 7)],.code b86,none⟩
def b87:AC:=
 (zS [zO 6 (.alloc 63 [(.bool false),(.int .u64 0),(.bool false),(.int .i64 0),(.bool false),(.int .u8 0),(.int .i64 0)])]
 (zS [zM 8 2,zU 9 8,zF 10 1 9,zL 11 10,zC 12 (.f 93) [.t 11],zM 7 12]
 (.seq (zS [zM 13 2,zU 14 13,zF 15 7 14,zL 16 15]
 (.block 0 (zS [zO 27 (.bin .eql (.t 16) (.k (.int .i64 0))),zM 26 27]
 (.cond (.t 26) (zS [zM 28 0,zM 29 2,zU 30 29,zF 31 2 30,zL 32 31,zO 33 (.build [(.int .u8 0),(.int .i64 0),(.int .i64 0),(.int .u64 0)] [(0,1,(.k (.int .u8 7))),(1,1,(.t 32))]),zC 34 (.f 83) [.t 28,.t 33]]
 (.seq (zS [zM 35 7,zE 36 35,zO 37 (.bin .eql (.t 36) (.k (.int .i64 0)))]
 (.cond (.t 37) (zS [zM 38 0,zM 39 1,zC 40 (.f 136) [.t 38,.t 39],zT 7 6 40]
 .ret)
 .skip))
 (.reg [zM 41 2,zU 42 41,zF 43 7 42,zN (.store 1 (.t 43) (.k (.int .i64 1)))])))
 (zS [zO 45 (.bin .eql (.t 16) (.k (.int .i64 1))),zM 44 45]
 (.cond (.t 44) (.seq (.dreg (zQ (zM 46 0) (zQ (zU 47 46) (zQ (zF 48 0 47) (zQ (zL 49 48) (zQ (zM 50 1) (zQ (zM 51 2) (zQ (zU 52 51) (zQ (zF 53 3 52) (zQ (zL 54 53) (.loud (zC 55 (.f 137) [.t 49,.t 50,.t 54]) [] .nil)))))))))))
 (.block 1 (zS [zO 59 (.bin .eql (.t 55) (.k (.int .i64 0))),zM 58 59]
 (.cond (.t 58) (zS [zM 60 2,zM 61 2,zM 62 2,zU 63 60,zF 64 12 63,zN (.store 1 (.t 64) (.k (.bool true))),zU 65 61,zF 66 7 65,zN (.store 1 (.t 66) (.k (.int .i64 2))),zU 67 62,zF 68 9 67,zN (.store 1 (.t 68) (.k (.int .i64 0)))]
 (.dreg (zQ (zM 69 0) (zQ (zU 70 69) (zQ (zF 71 4 70) (zQ (zL 72 71) (zQ (zM 73 2) (zQ (zU 74 73) (zQ (zF 75 2 74) (zQ (zL 76 75) (zQ (zM 77 2) (zQ (zU 78 77) (zQ (zF 79 3 78) (zQ (zL 80 79) (zQ (zO 81 (.bin .add (.t 80) (.k (.int .u64 2)))) (zQ (zI 82 1 72 76) (.loud (zT 1 82 81) [] .nil)))))))))))))))))
 (zS [zO 84 (.bin .eql (.t 55) (.k (.int .i64 4))),zM 83 84]
 (.cond (.t 83) (zS [zM 85 0,zM 86 1,zC 87 (.f 86) [.t 85,.t 86,(.k (.int .u8 2))],zT 7 6 87]
 .ret)
 (zS [zM 56 2,zC 57 (.f 138) [.t 56,(.k (.int .i64 1))],zT 7 6 57]
 .ret)))))))
 (zS [zO 89 (.bin .eql (.t 16) (.k (.int .i64 2))),zM 88 89]
 (.cond (.t 88) (.seq (.dreg (zQ (zM 90 0) (zQ (zU 91 90) (zQ (zF 92 1 91) (zQ (zL 93 92) (zQ (zM 94 7) (zQ (zM 95 2) (zQ (zU 96 95) (zQ (zF 97 9 96) (zQ (zL 98 97) (zQ (zI 99 2 94 98) (zQ (zF 100 0 99) (zQ (zL 101 100) (zQ (zM 102 7) (zQ (zM 103 2) (zQ (zU 104 103) (zQ (zF 105 9 104) (zQ (zL 106 105) (zQ (zI 107 2 102 106) (zQ (zF 108 1 107) (zQ (zL 109 108) (zQ (zI 110 1 93 101) (.loud (zT 1 110 109) [] .nil)))))))))))))))))))))))
 (zS [zM 111 2,zU 112 111,zF 113 9 112,zL 114 113,zO 115 (.bin .add (.t 114) (.k (.int .i64 1))),zU 116 111,zF 117 9 116,zT 1 117 115]
 (zS [zM 118 2,zU 119 118,zF 120 9 119,zL 121 120,zM 122 7,zE 123 122,zB 124 .eql 121 123]
 (.cond (.t 124) (.reg [zM 125 2,zU 126 125,zF 127 7 126,zN (.store 1 (.t 127) (.k (.int .i64 3)))])
 .skip))))
 (zS [zM 17 0,zU 18 17,zF 19 0 18,zL 20 19,zM 21 1,zC 22 (.f 139) [.t 20,.t 21]]
 (zS [zM 23 0,zM 24 1,zC 25 (.f 136) [.t 23,.t 24],zT 7 6 25]
 .ret))))))))))
 (zS [zO 128 (.build [(.bool false),(.int .u64 0),(.bool false),(.int .i64 0),(.bool false),(.int .u8 0),(.int .i64 0)] []),zT 7 6 128]
 .ret))))
def a87:AF:=⟨129,[(.c 6 true 7)],.code b87,none⟩
def b88:AC:=
 (zS [zO 3 (.box 3 (.t 1)),zO 4 (.alloc 49 [(.int .u64 0)]),zO 5 (.alloc 4 [(.bool false)])]
 (.seq (zS [zM 9 0,zO 10 (.eq false .ptr (.t 9) (.k (.pointer none)))]
 (.cond (.t 10) (zS [zN (.store 1 (.t 4) (.k (.int .u64 0))),zN (.store 1 (.t 5) (.k (.bool false)))]
 .ret)
 .skip))
 (.seq (zS [zM 11 0,zU 12 11,zF 13 0 12,zL 14 13,zC 15 (.f 140) [.t 14]]
 (.block 0 (.rfunc (.t 15) [16] (.reg [zM 6 16])
  (.block 1 (zS [zM 18 6,zL 19 3,zC 20 (.f 141) [.t 18,.t 19],zM 17 20,zO 21 (.extract (.t 17) 0),zO 22 (.extract (.t 17) 1),zM 7 21,zM 8 22]
  (zS [zM 23 8]
  (.cond (.t 23) (zS [zM 24 7,zT 1 4 24,zN (.store 1 (.t 5) (.k (.bool true)))]
  .ret)
  .skip)))))))
 (zS [zN (.store 1 (.t 4) (.k (.int .u64 0))),zN (.store 1 (.t 5) (.k (.bool false)))]
 .ret))))
def a88:AF:=⟨25,[(.c 4 false 1),(.c 5 false 1)],.code b88,none⟩
def b89:AC:=
 (zS [zO 6 (.alloc 63 [(.bool false),(.int .u64 0),(.bool false),(.int .i64 0),(.bool false),(.int .u8 0),(.int .i64 0)])]
 (.seq (.dreg (zQ (zM 7 0) (zQ (zM 8 1) (zQ (zU 9 8) (zQ (zF 10 2 9) (zQ (zL 11 10) (zQ (zM 12 1) (zQ (zU 13 12) (zQ (zF 14 4 13) (zQ (zF 15 1 14) (zQ (zL 16 15) (zQ (zM 17 2) (zQ (zO 18 (.build [(.int .u8 0),(.int .i64 0),(.int .i64 0),(.int .u64 0)] [(0,1,(.k (.int .u8 2))),(1,1,(.t 11)),(2,1,(.t 16)),(3,1,(.t 17))])) (.loud (zC 19 (.f 83) [.t 7,.t 18]) [] .nil))))))))))))))
 (zS [zM 20 1,zM 21 2,zC 22 (.f 142) [.t 20,.t 21],zT 7 6 22]
 .ret)))
def a89:AF:=⟨23,[(.c 6 true 7)],.code b89,none⟩
def b90:AC:=
 (zS [zO 6 (.alloc 63 [(.bool false),(.int .u64 0),(.bool false),(.int .i64 0),(.bool false),(.int .u8 0),(.int .i64 0)])]
 (zS [zM 8 2,zU 9 8,zF 10 4 9,zF 11 1 10,zL 12 11,zM 7 12]
 (.seq (.block 0 (zS [zM 14 2,zU 15 14,zF 16 7 15,zL 17 16,zO 18 (.bin .eql (.t 17) (.k (.int .i64 0))),zM 13 18]
 (.cond (.t 13) (zS [zM 19 2,zM 20 2,zM 21 0,zU 22 21,zF 23 1 22,zL 24 23,zM 25 7,zI 26 1 24 25,zL 27 26,zU 28 19,zF 29 11 28,zT 1 29 27,zU 30 20,zF 31 7 30,zN (.store 1 (.t 31) (.k (.int .i64 1)))]
 (zS [zO 32 (.build [(.bool false),(.int .u64 0),(.bool false),(.int .i64 0),(.bool false),(.int .u8 0),(.int .i64 0)] []),zT 7 6 32]
 .ret))
 (.seq (.dreg (zQ (zM 34 0) (zQ (zU 35 34) (zQ (zF 36 0 35) (zQ (zL 37 36) (zQ (zM 38 2) (zQ (zU 39 38) (zQ (zF 40 3 39) (zQ (zL 41 40) (.loud (zC 42 (.f 134) [.t 37,.t 41]) [] (zQ (zO 43 (.un .not (.t 42))) (.loud (zM 33 43) [] .nil))))))))))))
 (.cond (.t 33) (zS [zM 44 2,zC 45 (.f 138) [.t 44,(.k (.int .i64 0))],zT 7 6 45]
 .ret)
 (.seq (.dreg (zQ (zM 47 2) (zQ (zU 48 47) (zQ (zF 49 0 48) (zQ (zL 50 49) (zQ (zM 51 7) (zQ (zM 52 2) (zQ (zU 53 52) (zQ (zF 54 11 53) (zQ (zL 55 54) (zQ (zO 56 (.build [(.int .i64 0),(.int .u64 0),(.int .u64 0)] [(0,1,(.t 51)),(1,1,(.t 55))])) (.loud (zC 57 (.f 143) [.t 50,.t 56]) [] (zQ (zO 58 (.bin .neq (.t 57) (.k (.int .i64 0)))) (.loud (zM 46 58) [] .nil))))))))))))))
 (.cond (.t 46) (zS [zM 59 0,zM 60 1,zC 61 (.f 86) [.t 59,.t 60,(.k (.int .u8 2))],zT 7 6 61]
 .ret)
 .skip)))))))
 (zS [zM 62 0,zM 63 2,zM 64 2,zU 65 64,zF 66 11 65,zL 67 66,zC 68 (.f 89) [.t 62,.t 63,.t 67],zT 7 6 68]
 .ret))))
def a90:AF:=⟨69,[(.c 6 true 7)],.code b90,none⟩
def b91:AC:=
 (zS [zO 6 (.alloc 63 [(.bool false),(.int .u64 0),(.bool false),(.int .i64 0),(.bool false),(.int .u8 0),(.int .i64 0)])]
 (zS [zM 8 2,zU 9 8,zF 10 2 9,zL 11 10,zO 12 (.build [(.int .u8 0),(.int .i64 0),(.int .i64 0),(.int .u64 0)] [(1,1,(.t 11))]),zO 7 (.alloc 84 [(.int .u8 0),(.int .i64 0),(.int .i64 0),(.int .u64 0)]),zT 4 7 12]
 (.seq (zS [zM 13 2,zU 14 13,zF 15 4 14,zF 16 0 15,zL 17 16]
 (.block 0 (.seq (.block 5 (.block 4 (.seq (.block 3 (.seq (.block 2 (.seq (.block 1 (.seq (.seq (zS [zO 19 (.bin .eql (.t 17) (.k (.int .u8 3))),zM 18 19]
 (.cond (.t 18) (.exit 1)
 .skip))
 (.seq (zS [zO 21 (.bin .eql (.t 17) (.k (.int .u8 4))),zM 20 21]
 (.cond (.t 20) (.exit 2)
 .skip))
 (.seq (zS [zO 23 (.bin .eql (.t 17) (.k (.int .u8 5))),zM 22 23]
 (.cond (.t 22) (.exit 3)
 .skip))
 (zS [zO 25 (.bin .eql (.t 17) (.k (.int .u8 2))),zM 24 25]
 (.cond (.t 24) (.exit 4)
 .skip)))))
 (.exit 5)))
 (.seq (zS [zF 26 0 7,zN (.store 1 (.t 26) (.k (.int .u8 4)))]
 (.reg [zM 27 2,zU 28 27,zF 29 1 28,zL 30 29,zC 31 (.f 144) [.t 30]]))
 (.exit 0))))
 (.seq (zS [zF 32 0 7,zN (.store 1 (.t 32) (.k (.int .u8 5)))]
 (.reg [zM 33 2,zU 34 33,zF 35 1 34,zL 36 35,zC 37 (.f 145) [.t 36]]))
 (.exit 0))))
 (.seq (zS [zF 38 0 7,zN (.store 1 (.t 38) (.k (.int .u8 6)))]
 (.reg [zM 39 2,zU 40 39,zF 41 1 40,zL 42 41,zC 43 (.f 146) [.t 42]]))
 (.exit 0)))))
 (.seq (.seq (.dreg (zQ (zM 44 2) (zQ (zU 45 44) (zQ (zF 46 4 45) (zQ (zF 47 1 46) (zQ (zL 48 47) (zQ (zM 49 2) (zQ (zU 50 49) (zQ (zF 51 4 50) (zQ (zF 52 2 51) (zQ (zL 53 52) (zQ (zF 54 0 7) (.loud (zN (.store 1 (.t 54) (.k (.int .u8 3)))) [zL 53 52,zL 48 47] (zQ (zF 55 2 7) (.loud (zT 1 55 48) [zL 53 52] (zQ (zF 56 3 7) (.loud (zT 1 56 53) [] .nil)))))))))))))))))
 (.seq (.dreg (zQ (zM 57 2) (zQ (zU 58 57) (zQ (zF 59 1 58) (zQ (zL 60 59) (zQ (zF 61 2 7) (zQ (zL 62 61) (zQ (zF 63 3 7) (zQ (zL 64 63) (.loud (zC 65 (.f 147) [.t 60,.t 62,.t 64]) [] (zQ (zO 66 (.bin .neq (.t 65) (.k (.int .i64 0)))) .nil)))))))))))
 (.cond (.t 66) (zS [zM 67 0,zM 68 1,zC 69 (.f 86) [.t 67,.t 68,(.k (.int .u8 2))],zT 7 6 69]
 .ret)
 .skip)))
 (.exit 0)))))
 (zS [zM 70 0,zO 71 (.loadN 4 (.t 7)),zC 72 (.f 83) [.t 70,.t 71]]
 (zS [zM 73 2,zC 74 (.f 142) [.t 73,(.k (.int .u64 0))],zT 7 6 74]
 .ret)))))
def a91:AF:=⟨75,[(.c 6 true 7)],.code b91,none⟩
def b92:AC:=
 (zS [zK 2 (.slice none 0 0)]
 (.seq (zS [zM 6 0,zO 7 (.eq false .ptr (.t 6) (.k (.pointer none)))]
 (.cond (.t 7) (zS [zK 2 (.slice none 0 0)]
 .ret)
 .skip))
 (zS [zK 3 (.slice none 0 0)]
 (.seq (zS [zM 8 0,zU 9 8,zF 10 0 9,zL 11 10,zE 12 11,zK 13 (.int .i64 0)]
 (.block 0 (.loop (zS [zB 14 .lss 13 12]
  (.seq (.cond (.t 14) .skip
  (.exit 0))
  (.seq (.block 1 (zS [zI 15 1 11 13,zL 16 15,zM 5 16]
  (.reg [zM 17 3,zM 18 0,zU 19 18,zF 20 1 19,zL 21 20,zM 22 5,zO 23 (.lookup false (.agg #[(.int .i64 0),(.int .u64 0),(.int .u64 0)]) false (.t 21) (.t 22)),zO 24 (.bslice 155 [(.int .i64 0),(.int .u64 0),(.int .u64 0)] 1 [(0,3,(.t 23))]),zO 25 (.append 155 3 24 (.t 17) (.t 24)),zM 3 25])))
  (.reg [zO 26 (.bin .add (.t 13) (.k (.int .i64 1))),zM 13 26])))))))
 (zS [zM 27 3,zM 2 27]
 .ret)))))
def a92:AF:=⟨28,[.t 2],.code b92,none⟩
def b93:AC:=
 (zS [zK 2 (.slice none 0 0)]
 (zS [zK 3 (.slice none 0 0)]
 (.seq (zS [zK 7 (.int .i64 0)]
 (.block 0 (.loop (zS [zO 8 (.bin .lss (.t 7) (.k (.int .i64 12)))]
  (.seq (.cond (.t 8) .skip
  (.exit 0))
  (.seq (.block 1 (zS [zM 9 7,zM 4 9]
  (zS [zM 11 0,zM 12 4,zC 13 (.f 88) [.t 11,.t 12],zM 10 13,zO 14 (.extract (.t 10) 0),zO 15 (.extract (.t 10) 1),zM 5 14,zM 6 15]
  (zS [zM 16 6]
  (.cond (.t 16) (.reg [zM 17 3,zM 18 4,zM 19 5,zO 20 (.build [(.int .i64 0),(.int .u64 0)] [(0,1,(.t 18)),(1,1,(.t 19))]),zO 21 (.bslice 157 [(.int .i64 0),(.int .u64 0)] 1 [(0,2,(.t 20))]),zO 22 (.append 157 2 16 (.t 17) (.t 21)),zM 3 22])
  .skip)))))
  (.reg [zO 23 (.bin .add (.t 7) (.k (.int .i64 1))),zM 7 23])))))))
 (zS [zM 24 3,zM 2 24]
 .ret))))
def a93:AF:=⟨25,[.t 2],.code b93,none⟩
def b94:AC:=
 (zS [zK 2 (.int .i64 0),zK 3 (.bool false)]
 (.seq (zS [zM 4 0,zO 5 (.eq false .ptr (.t 4) (.k (.pointer none))),zM 6 5,zV 7 0 6 false,zG 8 (.nilchk (.t 7)) 6 false,zG 9 (.faddr 0 (.t 8)) 6 false,zG 10 (.load (.t 9)) 6 false,zG 11 (.eq false .ptr (.t 10) (.k (.pointer none))) 6 false,zO 12 (.pick (.t 6) (.k (.bool true)) (.t 11))]
 (.cond (.t 12) (zS [zK 2 (.int .i64 0),zK 3 (.bool false)]
 .ret)
 .skip))
 (zS [zM 13 0,zU 14 13,zF 15 0 14,zL 16 15,zU 17 16,zL 18 17,zM 2 18,zK 3 (.bool true)]
 .ret)))
def a94:AF:=⟨19,[.t 2,.t 3],.code b94,none⟩
def b96:AC:=
 (zS [zK 2 (.bool false)]
 (zS [zM 3 0,zO 4 (.bin .andNot (.t 3) (.k (.int .u64 9223372036854775808))),zO 5 (.bin .leq (.t 4) (.k (.int .u64 9218868437227405312))),zM 6 5,zV 7 0 6 false,zG 8 (.bin .eql (.t 7) (.k (.int .u64 9221120237041090560))) 6 false,zO 9 (.pick (.t 6) (.k (.bool true)) (.t 8)),zM 2 9]
 .ret))
def a96:AF:=⟨10,[.t 2],.code b96,none⟩
def b97:AC:=
 (zS [zK 0 (.pointer none)]
 (zS [zO 1 (.build [(.pointer none),(.int .u64 0)] []),zO 2 (.box 152 (.t 1)),zM 0 2]
 .ret))
def a97:AF:=⟨3,[.t 0],.code b97,none⟩
def b98:AC:=
 (zS [zK 2 (.bool false)]
 (zS [zM 4 0,zO 5 (.frombits (.t 4)),zM 3 5]
 (zS [zM 6 3,zM 7 3,zB 8 .eql 6 7,zM 9 8,zV 10 0 9 false,zG 11 (.bin .eql (.t 10) (.k (.int .u64 9221120237041090560))) 9 false,zO 12 (.pick (.t 9) (.k (.bool true)) (.t 11)),zM 2 12]
 .ret)))
def a98:AF:=⟨13,[.t 2],.code b98,none⟩
def b99:AC:=
 (zS [zK 2 (.bool false)]
 (.seq (zS [zM 4 0,zE 5 4,zO 6 (.bin .gtr (.t 5) (.k (.int .i64 400)))]
 (.cond (.t 6) (zS [zK 2 (.bool false)]
 .ret)
 .skip))
 (.seq (zS [zK 3 (.int .i64 0)]
 (.block 0 (.loop (.seq (zS [zM 7 3,zM 8 0,zE 9 8,zB 10 .lss 7 9]
  (.cond (.t 10) .skip
  (.exit 0)))
  (.seq (.block 1 (zS [zM 13 0,zM 14 3,zC 15 (.f 150) [.t 13,.t 14],zO 16 (.un .not (.t 15))]
  (.cond (.t 16) (zS [zK 2 (.bool false)]
  .ret)
  .skip)))
  (.reg [zM 11 3,zO 12 (.bin .add (.t 11) (.k (.int .i64 1))),zM 3 12]))))))
 (zS [zK 2 (.bool true)]
 .ret))))
def a99:AF:=⟨17,[.t 2],.code b99,none⟩
def b100:AC:=
 (zS [zK 4 (.int .u8 0)]
 (.seq (zS [zM 7 0,zM 8 0,zE 9 8,zM 10 1,zC 11 (.f 101) [.t 7,.t 9,.t 10,(.k (.int .u8 1))],zO 12 (.un .not (.t 11))]
 (.cond (.t 12) (zS [zK 4 (.int .u8 0)]
 .ret)
 .skip))
 (zS [zK 5 (.int .u8 1)]
 (.seq (zS [zK 6 (.int .i64 0)]
 (.block 0 (.loop (.seq (zS [zM 13 6,zM 14 0,zE 15 14,zB 16 .lss 13 15]
  (.cond (.t 16) .skip
  (.exit 0)))
  (.seq (.block 1 (.seq (zS [zM 19 0,zM 20 6,zI 21 4 19 20,zF 22 1 21,zL 23 22,zM 24 1,zB 25 .neq 23 24]
  (.cond (.t 25) (.exit 1)
  .skip))
  (zS [zM 26 0,zM 27 6,zI 28 4 26 27,zF 29 0 28,zL 30 29]
  (.block 2 (zS [zO 32 (.bin .eql (.t 30) (.k (.int .u8 7))),zM 31 32]
  (.cond (.t 31) (.reg [zK 5 (.int .u8 2)])
  (zS [zO 34 (.bin .eql (.t 30) (.k (.int .u8 8))),zM 33 34]
  (.cond (.t 33) (.reg [zK 5 (.int .u8 3)])
  (zS [zO 36 (.bin .eql (.t 30) (.k (.int .u8 9))),zM 35 36]
  (.cond (.t 35) (.reg [zK 5 (.int .u8 4)])
  .skip))))))))))
  (.reg [zM 17 6,zO 18 (.bin .add (.t 17) (.k (.int .i64 1))),zM 6 18]))))))
 (zS [zM 37 5,zM 4 37]
 .ret)))))
def a100:AF:=⟨38,[.t 4],.code b100,none⟩
def b101:AC:=
 (zS [zK 8 (.bool false)]
 (.seq (zS [zK 9 (.int .i64 0)]
 (.block 0 (.loop (.seq (zS [zM 10 9,zM 11 1,zB 12 .lss 10 11]
  (.cond (.t 12) .skip
  (.exit 0)))
  (.seq (.block 1 (zS [zM 15 0,zM 16 9,zI 17 4 15 16,zF 18 1 17,zL 19 18,zM 20 2,zB 21 .eql 19 20,zM 22 21,zV 23 0 22 true,zV 24 9 22 true,zG 25 (.iaddrS 4 (.t 23) (.t 24)) 22 true,zG 26 (.faddr 0 (.t 25)) 22 true,zG 27 (.load (.t 26)) 22 true,zV 28 3 22 true,zG 29 (.bin .eql (.t 27) (.t 28)) 22 true,zO 30 (.pick (.t 22) (.t 29) (.k (.bool false)))]
  (.cond (.t 30) (zS [zK 8 (.bool true)]
  .ret)
  .skip)))
  (.reg [zM 13 9,zO 14 (.bin .add (.t 13) (.k (.int .i64 1))),zM 9 14]))))))
 (zS [zK 8 (.bool false)]
 .ret)))
def a101:AF:=⟨31,[.t 8],.code b101,none⟩
def b102:AC:=
 (zS [zK 6 (.bool false)]
 (.seq (zS [zK 7 (.int .i64 0)]
 (.block 0 (.loop (.seq (zS [zM 8 7,zM 9 0,zE 10 9,zB 11 .lss 8 10]
  (.cond (.t 11) .skip
  (.exit 0)))
  (.seq (.block 1 (zS [zM 14 0,zM 15 7,zI 16 4 14 15,zF 17 0 16,zL 18 17,zO 19 (.bin .eql (.t 18) (.k (.int .u8 1))),zM 20 19,zV 21 0 20 true,zV 22 7 20 true,zG 23 (.iaddrS 4 (.t 21) (.t 22)) 20 true,zG 24 (.faddr 1 (.t 23)) 20 true,zG 25 (.load (.t 24)) 20 true,zV 26 2 20 true,zG 27 (.bin .eql (.t 25) (.t 26)) 20 true,zO 28 (.pick (.t 20) (.t 27) (.k (.bool false)))]
  (.cond (.t 28) (zS [zM 29 0,zM 30 7,zM 31 1,zC 32 (.f 101) [.t 29,.t 30,.t 31,(.k (.int .u8 8))],zM 33 32,zV 34 0 33 false,zV 35 7 33 false,zV 36 1 33 false,⟨some 37,(.call (.f 101) [.t 34,.t 35,.t 36,(.k (.int .u8 9))]),(some (33,false))⟩,zO 38 (.pick (.t 33) (.k (.bool true)) (.t 37)),zM 6 38]
  .ret)
  .skip)))
  (.reg [zM 12 7,zO 13 (.bin .add (.t 12) (.k (.int .i64 1))),zM 7 13]))))))
 (zS [zK 6 (.bool false)]
 .ret)))
def a102:AF:=⟨39,[.t 6],.code b102,none⟩
def b103:AC:=
 (zS [zK 8 (.bool false)]
 (zS [zM 14 0,zM 15 2,zC 16 (.f 151) [.t 14,.t 15],zM 17 0,zM 18 2,zC 19 (.f 152) [.t 17,.t 18],zM 9 16,zM 10 19]
 (.seq (zS [zK 11 (.int .i64 0)]
 (.block 0 (.loop (.seq (zS [zM 20 11,zM 21 9,zE 22 21,zB 23 .lss 20 22]
  (.cond (.t 23) .skip
  (.exit 0)))
  (.seq (.block 1 (.seq (.dreg (zQ (zM 26 9) (zQ (zM 27 11) (zQ (zI 28 2 26 27) (zQ (zF 29 0 28) (zQ (zL 30 29) (zQ (zM 31 1) (zQ (zE 32 31) (zQ (zB 33 .geq 30 32) (zQ (zM 34 33) (zQ (zV 35 1 34 false) (zQ (zV 36 9 34 false) (zQ (zV 37 11 34 false) (zQ (zG 38 (.iaddrS 2 (.t 36) (.t 37)) 34 false) (zQ (zG 39 (.faddr 0 (.t 38)) 34 false) (zQ (zG 40 (.load (.t 39)) 34 false) (zQ (zG 41 (.iaddrS 1 (.t 35) (.t 40)) 34 false) (zQ (zG 42 (.load (.t 41)) 34 false) (zQ (zV 43 9 34 false) (zQ (zV 44 11 34 false) (zQ (zG 45 (.iaddrS 2 (.t 43) (.t 44)) 34 false) (zQ (zG 46 (.faddr 1 (.t 45)) 34 false) (zQ (zG 47 (.load (.t 46)) 34 false) (zQ (zG 48 (.bin .neq (.t 42) (.t 47)) 34 false) (zQ (zO 49 (.pick (.t 34) (.k (.bool true)) (.t 48))) .nil)))))))))))))))))))))))))
  (.cond (.t 49) (zS [zK 8 (.bool false)]
  .ret)
  .skip)))
  (.reg [zM 24 11,zO 25 (.bin .add (.t 24) (.k (.int .i64 1))),zM 11 25]))))))
 (.seq (zS [zK 12 (.int .i64 0)]
 (.block 2 (.loop (.seq (zS [zM 50 12,zM 51 10,zE 52 51,zB 53 .lss 50 52]
  (.cond (.t 53) .skip
  (.exit 2)))
  (.seq (.block 3 (zS [zM 56 10,zM 57 12,zI 58 2 56 57,zF 59 0 58,zL 60 59,zM 61 1,zE 62 61,zB 63 .geq 60 62]
  (.cond (.t 63) (zS [zK 8 (.bool false)]
  .ret)
  .skip)))
  (.reg [zM 54 12,zO 55 (.bin .add (.t 54) (.k (.int .i64 1))),zM 12 55]))))))
 (.seq (zS [zK 13 (.int .i64 0)]
 (.block 4 (.loop (.seq (zS [zM 64 13,zM 65 10,zE 66 65,zB 67 .lss 64 66,zM 68 67,zV 69 3 68 true,zO 70 (.pick (.t 68) (.t 69) (.k (.bool false)))]
  (.cond (.t 70) .skip
  (.exit 4)))
  (.seq (.block 5 (.dreg (zQ (zM 73 1) (zQ (zM 74 10) (zQ (zM 75 13) (zQ (zI 76 2 74 75) (zQ (zF 77 0 76) (zQ (zL 78 77) (zQ (zM 79 10) (zQ (zM 80 13) (zQ (zI 81 2 79 80) (zQ (zF 82 1 81) (zQ (zL 83 82) (zQ (zI 84 1 73 78) (.loud (zT 1 84 83) [] .nil)))))))))))))))
  (.reg [zM 71 13,zO 72 (.bin .add (.t 71) (.k (.int .i64 1))),zM 13 72]))))))
 (zS [zM 85 0,zM 86 2,zC 87 (.f 153) [.t 85,.t 86],zM 8 87]
 .ret))))))
def a103:AF:=⟨88,[.t 8],.code b103,none⟩
end YtnemoimbeefngaaGreat
end Go.Proofs
