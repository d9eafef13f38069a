/-
  THE FUNCTIONS of this seat in their plain form, and that each is the loaded one's.
-/
import Derived.Test.YtmhkpababjdnbaaDoorProg
import Derived.Test.YtmhkpababjdnbaaDoorPA2
import Derived.Laws.Externs
namespace Go.Proofs
namespace YtmhkpababjdnbaaDoor
open Go.Abs

def ext : FuncId → Option Ext1 := fun g => if g = 76 then some .frombits else none
/-! 2: gosem.cut.init -/
def b2 : AC :=
  (.reg [⟨(some 0), (.call (.f 1) []), none⟩])
def a2 : AF := ⟨1, [], .code b2, none⟩
theorem ok2 : AFOk Tryd.prog ext 2 a2 := .of Tryd.func2 (by kernel_rfl) (by kernel_rfl) (by kernel_rfl) (by kernel_rfl)
/-! 3: rowlock/rowlocklaw25.TraceBoth -/
def b3 : AC :=
  (.seq (.reg [⟨(some 4), (.op (.mv (.k (.bool false)))), none⟩])
  (.seq (.reg [⟨(some 15), (.op (.mv (.t 0))), none⟩, ⟨(some 16), (.call (.f 7) [(.t 15)]), none⟩, ⟨(some 17), (.op (.mv (.t 1))), none⟩, ⟨(some 18), (.call (.f 7) [(.t 17)]), none⟩, ⟨(some 0), (.op (.mv (.t 16))), none⟩, ⟨(some 1), (.op (.mv (.t 18))), none⟩])
  (.seq (.reg [⟨(some 20), (.op (.mv (.t 0))), none⟩, ⟨(some 21), (.op (.mv (.t 1))), none⟩, ⟨(some 22), (.call (.f 8) [(.t 20), (.t 21)]), none⟩, ⟨(some 19), (.op (.mv (.t 22))), none⟩, ⟨(some 23), (.op (.extract (.t 19) 0)), none⟩, ⟨(some 24), (.op (.extract (.t 19) 1)), none⟩, ⟨(some 5), (.op (.mv (.t 23))), none⟩, ⟨(some 6), (.op (.mv (.t 24))), none⟩])
  (.seq (.seq (.reg [⟨(some 25), (.op (.mv (.t 6))), none⟩, ⟨(some 26), (.op (.bin .neq (.t 25) (.k (.int .i64 0)))), none⟩])
  (.cond (.t 26) (.seq (.reg [⟨(some 27), (.call (.f 9) []), none⟩, ⟨(some 28), (.op (.mv (.t 27))), none⟩, ⟨(some 29), (.op (.mv (.t 5))), (some (28, true))⟩, ⟨(some 30), (.op (.lenS (.t 29))), (some (28, true))⟩, ⟨(some 31), (.op (.bin .eql (.t 30) (.k (.int .i64 0)))), (some (28, true))⟩, ⟨(some 32), (.op (.pick (.t 28) (.t 31) (.k (.bool false)))), none⟩, ⟨(some 4), (.op (.mv (.t 32))), none⟩])
  .ret)
  .skip))
  (.seq (.reg [⟨(some 33), (.op (.mv (.t 0))), none⟩, ⟨(some 34), (.call (.f 10) [(.t 33)]), none⟩, ⟨(some 35), (.op (.mv (.t 1))), none⟩, ⟨(some 36), (.call (.f 10) [(.t 35)]), none⟩, ⟨(some 37), (.op (.mv (.t 5))), none⟩, ⟨(some 38), (.call (.f 10) [(.t 37)]), none⟩, ⟨(some 7), (.op (.alloc 29 [(.int .i64 0), (.int .i64 0), (.int .i64 0), (.int .i64 0), (.int .i64 0), (.int .i64 0)])), none⟩, ⟨(some 8), (.op (.alloc 29 [(.int .i64 0), (.int .i64 0), (.int .i64 0), (.int .i64 0), (.int .i64 0), (.int .i64 0)])), none⟩, ⟨(some 9), (.op (.alloc 29 [(.int .i64 0), (.int .i64 0), (.int .i64 0), (.int .i64 0), (.int .i64 0), (.int .i64 0)])), none⟩, ⟨none, (.op (.store 6 (.t 7) (.t 34))), none⟩, ⟨none, (.op (.store 6 (.t 8) (.t 36))), none⟩, ⟨none, (.op (.store 6 (.t 9) (.t 38))), none⟩])
  (.seq (.seq (.reg [⟨(some 39), (.op (.faddr 0 (.t 9))), none⟩, ⟨(some 40), (.op (.load (.t 39))), none⟩, ⟨(some 41), (.op (.faddr 0 (.t 7))), none⟩, ⟨(some 42), (.op (.load (.t 41))), none⟩, ⟨(some 43), (.op (.faddr 0 (.t 8))), none⟩, ⟨(some 44), (.op (.load (.t 43))), none⟩, ⟨(some 45), (.op (.bin .add (.t 42) (.t 44))), none⟩, ⟨(some 46), (.op (.bin .neq (.t 40) (.t 45))), none⟩, ⟨(some 47), (.op (.mv (.t 46))), none⟩, ⟨(some 48), (.op (.faddr 1 (.t 9))), (some (47, false))⟩, ⟨(some 49), (.op (.load (.t 48))), (some (47, false))⟩, ⟨(some 50), (.op (.faddr 1 (.t 7))), (some (47, false))⟩, ⟨(some 51), (.op (.load (.t 50))), (some (47, false))⟩, ⟨(some 52), (.op (.faddr 1 (.t 8))), (some (47, false))⟩, ⟨(some 53), (.op (.load (.t 52))), (some (47, false))⟩, ⟨(some 54), (.op (.bin .add (.t 51) (.t 53))), (some (47, false))⟩, ⟨(some 55), (.op (.bin .neq (.t 49) (.t 54))), (some (47, false))⟩, ⟨(some 56), (.op (.pick (.t 47) (.k (.bool true)) (.t 55))), none⟩, ⟨(some 57), (.op (.mv (.t 56))), none⟩, ⟨(some 58), (.op (.faddr 2 (.t 9))), (some (57, false))⟩, ⟨(some 59), (.op (.load (.t 58))), (some (57, false))⟩, ⟨(some 60), (.op (.faddr 2 (.t 7))), (some (57, false))⟩, ⟨(some 61), (.op (.load (.t 60))), (some (57, false))⟩, ⟨(some 62), (.op (.faddr 2 (.t 8))), (some (57, false))⟩, ⟨(some 63), (.op (.load (.t 62))), (some (57, false))⟩, ⟨(some 64), (.op (.bin .add (.t 61) (.t 63))), (some (57, false))⟩, ⟨(some 65), (.op (.bin .neq (.t 59) (.t 64))), (some (57, false))⟩, ⟨(some 66), (.op (.pick (.t 57) (.k (.bool true)) (.t 65))), none⟩, ⟨(some 67), (.op (.mv (.t 66))), none⟩, ⟨(some 68), (.op (.faddr 3 (.t 9))), (some (67, false))⟩, ⟨(some 69), (.op (.load (.t 68))), (some (67, false))⟩, ⟨(some 70), (.op (.faddr 3 (.t 7))), (some (67, false))⟩, ⟨(some 71), (.op (.load (.t 70))), (some (67, false))⟩, ⟨(some 72), (.op (.faddr 3 (.t 8))), (some (67, false))⟩, ⟨(some 73), (.op (.load (.t 72))), (some (67, false))⟩, ⟨(some 74), (.op (.bin .add (.t 71) (.t 73))), (some (67, false))⟩, ⟨(some 75), (.op (.bin .neq (.t 69) (.t 74))), (some (67, false))⟩, ⟨(some 76), (.op (.pick (.t 67) (.k (.bool true)) (.t 75))), none⟩, ⟨(some 77), (.op (.mv (.t 76))), none⟩, ⟨(some 78), (.op (.faddr 4 (.t 9))), (some (77, false))⟩, ⟨(some 79), (.op (.load (.t 78))), (some (77, false))⟩, ⟨(some 80), (.op (.faddr 4 (.t 7))), (some (77, false))⟩, ⟨(some 81), (.op (.load (.t 80))), (some (77, false))⟩, ⟨(some 82), (.op (.faddr 4 (.t 8))), (some (77, false))⟩, ⟨(some 83), (.op (.load (.t 82))), (some (77, false))⟩, ⟨(some 84), (.op (.bin .add (.t 81) (.t 83))), (some (77, false))⟩, ⟨(some 85), (.op (.bin .neq (.t 79) (.t 84))), (some (77, false))⟩, ⟨(some 86), (.op (.pick (.t 77) (.k (.bool true)) (.t 85))), none⟩, ⟨(some 87), (.op (.mv (.t 86))), none⟩, ⟨(some 88), (.op (.faddr 5 (.t 9))), (some (87, false))⟩, ⟨(some 89), (.op (.load (.t 88))), (some (87, false))⟩, ⟨(some 90), (.op (.faddr 5 (.t 7))), (some (87, false))⟩, ⟨(some 91), (.op (.load (.t 90))), (some (87, false))⟩, ⟨(some 92), (.op (.faddr 5 (.t 8))), (some (87, false))⟩, ⟨(some 93), (.op (.load (.t 92))), (some (87, false))⟩, ⟨(some 94), (.op (.bin .add (.t 91) (.t 93))), (some (87, false))⟩, ⟨(some 95), (.op (.bin .neq (.t 89) (.t 94))), (some (87, false))⟩, ⟨(some 96), (.op (.pick (.t 87) (.k (.bool true)) (.t 95))), none⟩])
  (.cond (.t 96) (.seq (.reg [⟨(some 4), (.op (.mv (.k (.bool false)))), none⟩])
  .ret)
  .skip))
  (.seq (.reg [⟨(some 97), (.op (.mv (.t 0))), none⟩, ⟨(some 98), (.call (.f 11) [(.t 97)]), none⟩, ⟨(some 99), (.op (.mv (.t 5))), none⟩, ⟨(some 100), (.call (.f 11) [(.t 99)]), none⟩, ⟨(some 10), (.op (.mv (.t 98))), none⟩, ⟨(some 11), (.op (.mv (.t 100))), none⟩])
  (.seq (.seq (.reg [⟨(some 12), (.op (.mv (.k (.int .i64 0)))), none⟩])
  (.block 0 (.loop (.seq (.seq (.reg [⟨(some 101), (.op (.mv (.t 12))), none⟩, ⟨(some 102), (.op (.mv (.t 10))), none⟩, ⟨(some 103), (.op (.lenS (.t 102))), none⟩, ⟨(some 104), (.op (.bin .lss (.t 101) (.t 103))), none⟩])
   (.cond (.t 104) .skip
   (.exit 0)))
   (.seq (.block 1 (.seq (.reg [⟨(some 107), (.op (.mv (.t 0))), none⟩, ⟨(some 108), (.op (.mv (.t 10))), none⟩, ⟨(some 109), (.op (.mv (.t 12))), none⟩, ⟨(some 110), (.op (.iaddrS 1 (.t 108) (.t 109))), none⟩, ⟨(some 111), (.op (.load (.t 110))), none⟩, ⟨(some 112), (.call (.f 12) [(.t 107), (.t 111)]), none⟩, ⟨(some 13), (.op (.mv (.t 112))), none⟩])
   (.seq (.reg [⟨(some 113), (.op (.mv (.t 10))), none⟩, ⟨(some 114), (.op (.lenS (.t 113))), none⟩, ⟨(some 14), (.op (.mv (.t 114))), none⟩])
   (.block 2 (.loop (.seq (.seq (.reg [⟨(some 115), (.op (.mv (.t 14))), none⟩, ⟨(some 116), (.op (.mv (.t 11))), none⟩, ⟨(some 117), (.op (.lenS (.t 116))), none⟩, ⟨(some 118), (.op (.bin .lss (.t 115) (.t 117))), none⟩])
    (.cond (.t 118) .skip
    (.exit 2)))
    (.seq (.block 3 (.seq (.dreg (.quiet ⟨(some 121), (.op (.mv (.t 5))), none⟩ (.quiet ⟨(some 122), (.op (.mv (.t 10))), none⟩ (.quiet ⟨(some 123), (.op (.mv (.t 12))), none⟩ (.quiet ⟨(some 124), (.op (.iaddrS 1 (.t 122) (.t 123))), none⟩ (.quiet ⟨(some 125), (.op (.load (.t 124))), none⟩ (.quiet ⟨(some 126), (.op (.mv (.t 11))), none⟩ (.quiet ⟨(some 127), (.op (.mv (.t 14))), none⟩ (.quiet ⟨(some 128), (.op (.iaddrS 1 (.t 126) (.t 127))), none⟩ (.quiet ⟨(some 129), (.op (.load (.t 128))), none⟩ (.quiet ⟨(some 131), (.op (.mv (.t 13))), none⟩ (.quiet ⟨(some 132), (.op (.bin .eql (.t 131) (.k (.int .u8 3)))), none⟩ (.loud ⟨(some 130), (.call (.f 13) [(.t 121), (.t 125), (.t 129)]), none⟩ [] (.quiet ⟨(some 133), (.op (.mv (.t 132))), none⟩ (.quiet ⟨(some 134), (.op (.mv (.t 13))), (some (133, false))⟩ (.quiet ⟨(some 135), (.op (.bin .eql (.t 134) (.k (.int .u8 4)))), (some (133, false))⟩ (.quiet ⟨(some 136), (.op (.pick (.t 133) (.k (.bool true)) (.t 135))), none⟩ (.quiet ⟨(some 137), (.op (.eq true .bool (.t 130) (.t 136))), none⟩ .nil))))))))))))))))))
    (.cond (.t 137) (.seq (.reg [⟨(some 4), (.op (.mv (.k (.bool false)))), none⟩])
    .ret)
    .skip)))
    (.reg [⟨(some 119), (.op (.mv (.t 14))), none⟩, ⟨(some 120), (.op (.bin .add (.t 119) (.k (.int .i64 1)))), none⟩, ⟨(some 14), (.op (.mv (.t 120))), none⟩]))))))))
   (.reg [⟨(some 105), (.op (.mv (.t 12))), none⟩, ⟨(some 106), (.op (.bin .add (.t 105) (.k (.int .i64 1)))), none⟩, ⟨(some 12), (.op (.mv (.t 106))), none⟩]))))))
  (.seq (.reg [⟨(some 138), (.call (.f 9) []), none⟩, ⟨(some 139), (.op (.mv (.t 138))), none⟩, ⟨(some 140), (.op (.mv (.t 5))), (some (139, true))⟩, ⟨(some 141), (.call (.f 14) [(.t 140)]), (some (139, true))⟩, ⟨(some 142), (.op (.pick (.t 139) (.t 141) (.k (.bool false)))), none⟩, ⟨(some 4), (.op (.mv (.t 142))), none⟩])
  .ret)))))))))
def a3 : AF := ⟨143, [(.t 4)], .code b3, none⟩
theorem ok3 : AFOk Tryd.prog ext 3 a3 := .of Tryd.func3 (by kernel_rfl) (by kernel_rfl) (by kernel_rfl) (by kernel_rfl)
/-! 4: rowlock/rowlocklaw25.TraceMerges -/
def b4 : AC :=
  (.seq (.reg [⟨(some 4), (.op (.mv (.k (.bool false)))), none⟩])
  (.seq (.reg [⟨(some 10), (.op (.mv (.t 0))), none⟩, ⟨(some 11), (.call (.f 7) [(.t 10)]), none⟩, ⟨(some 12), (.op (.mv (.t 1))), none⟩, ⟨(some 13), (.call (.f 7) [(.t 12)]), none⟩, ⟨(some 14), (.call (.f 8) [(.t 11), (.t 13)]), none⟩, ⟨(some 9), (.op (.mv (.t 14))), none⟩, ⟨(some 15), (.op (.extract (.t 9) 0)), none⟩, ⟨(some 16), (.op (.extract (.t 9) 1)), none⟩, ⟨(some 5), (.op (.mv (.t 15))), none⟩, ⟨(some 6), (.op (.mv (.t 16))), none⟩])
  (.seq (.reg [⟨(some 18), (.op (.mv (.t 0))), none⟩, ⟨(some 19), (.call (.f 7) [(.t 18)]), none⟩, ⟨(some 20), (.op (.mv (.t 1))), none⟩, ⟨(some 21), (.call (.f 7) [(.t 20)]), none⟩, ⟨(some 22), (.call (.f 15) [(.t 19), (.t 21)]), none⟩, ⟨(some 17), (.op (.mv (.t 22))), none⟩, ⟨(some 23), (.op (.extract (.t 17) 0)), none⟩, ⟨(some 24), (.op (.extract (.t 17) 1)), none⟩, ⟨(some 7), (.op (.mv (.t 23))), none⟩, ⟨(some 8), (.op (.mv (.t 24))), none⟩])
  (.seq (.reg [⟨(some 25), (.call (.f 9) []), none⟩, ⟨(some 26), (.op (.mv (.t 25))), none⟩, ⟨(some 27), (.op (.mv (.t 5))), (some (26, true))⟩, ⟨(some 28), (.op (.mv (.t 7))), (some (26, true))⟩, ⟨(some 29), (.call (.f 16) [(.t 27), (.t 28)]), (some (26, true))⟩, ⟨(some 30), (.op (.pick (.t 26) (.t 29) (.k (.bool false)))), none⟩, ⟨(some 31), (.op (.mv (.t 30))), none⟩, ⟨(some 32), (.op (.mv (.t 6))), (some (31, true))⟩, ⟨(some 33), (.op (.mv (.t 8))), (some (31, true))⟩, ⟨(some 34), (.op (.bin .eql (.t 32) (.t 33))), (some (31, true))⟩, ⟨(some 35), (.op (.pick (.t 31) (.t 34) (.k (.bool false)))), none⟩, ⟨(some 4), (.op (.mv (.t 35))), none⟩])
  .ret))))
def a4 : AF := ⟨36, [(.t 4)], .code b4, none⟩
theorem ok4 : AFOk Tryd.prog ext 4 a4 := .of Tryd.func4 (by kernel_rfl) (by kernel_rfl) (by kernel_rfl) (by kernel_rfl)
/-! 5: rowlock/rowlocklaw25.TraceAlone -/
def b5 : AC :=
  (.seq (.reg [⟨(some 2), (.op (.mv (.k (.bool false)))), none⟩])
  (.seq (.reg [⟨(some 7), (.op (.mv (.t 0))), none⟩, ⟨(some 8), (.call (.f 7) [(.t 7)]), none⟩, ⟨(some 0), (.op (.mv (.t 8))), none⟩])
  (.seq (.seq (.reg [⟨(some 9), (.op (.mv (.t 0))), none⟩, ⟨(some 10), (.call (.f 14) [(.t 9)]), none⟩, ⟨(some 11), (.op (.un .not (.t 10))), none⟩])
  (.cond (.t 11) (.seq (.reg [⟨(some 12), (.call (.f 9) []), none⟩, ⟨(some 2), (.op (.mv (.t 12))), none⟩])
  .ret)
  .skip))
  (.seq (.reg [⟨(some 13), (.op (.mv (.t 0))), none⟩, ⟨(some 14), (.call (.f 11) [(.t 13)]), none⟩, ⟨(some 3), (.op (.mv (.t 14))), none⟩])
  (.seq (.reg [⟨(some 4), (.op (.mv (.k (.slice none 0 0)))), none⟩])
  (.seq (.seq (.reg [⟨(some 5), (.op (.mv (.k (.int .i64 0)))), none⟩])
  (.block 0 (.loop (.seq (.seq (.reg [⟨(some 15), (.op (.mv (.t 5))), none⟩, ⟨(some 16), (.op (.mv (.t 3))), none⟩, ⟨(some 17), (.op (.lenS (.t 16))), none⟩, ⟨(some 18), (.op (.bin .lss (.t 15) (.t 17))), none⟩])
   (.cond (.t 18) .skip
   (.exit 0)))
   (.seq (.block 1 (.seq (.reg [⟨(some 21), (.op (.mv (.t 4))), none⟩, ⟨(some 22), (.op (.mv (.t 0))), none⟩, ⟨(some 23), (.op (.mv (.t 3))), none⟩, ⟨(some 24), (.op (.mv (.t 5))), none⟩, ⟨(some 25), (.op (.iaddrS 1 (.t 23) (.t 24))), none⟩, ⟨(some 26), (.op (.load (.t 25))), none⟩, ⟨(some 27), (.call (.f 17) [(.t 22), (.t 26)]), none⟩, ⟨(some 28), (.op (.append 43 4 32 (.t 21) (.t 27))), none⟩, ⟨(some 4), (.op (.mv (.t 28))), none⟩])
   (.seq (.reg [⟨(some 29), (.op (.mv (.t 0))), none⟩, ⟨(some 30), (.op (.mv (.t 3))), none⟩, ⟨(some 31), (.op (.mv (.t 5))), none⟩, ⟨(some 32), (.op (.iaddrS 1 (.t 30) (.t 31))), none⟩, ⟨(some 33), (.op (.load (.t 32))), none⟩, ⟨(some 34), (.call (.f 12) [(.t 29), (.t 33)]), none⟩, ⟨(some 6), (.op (.mv (.t 34))), none⟩])
   (.seq (.reg [⟨(some 35), (.op (.mv (.t 6))), none⟩, ⟨(some 36), (.op (.bin .eql (.t 35) (.k (.int .u8 1)))), none⟩, ⟨(some 37), (.op (.mv (.t 36))), none⟩, ⟨(some 38), (.op (.mv (.t 6))), (some (37, false))⟩, ⟨(some 39), (.op (.bin .eql (.t 38) (.k (.int .u8 2)))), (some (37, false))⟩, ⟨(some 40), (.op (.pick (.t 37) (.k (.bool true)) (.t 39))), none⟩])
   (.cond (.t 40) (.reg [⟨(some 41), (.op (.mv (.t 4))), none⟩, ⟨(some 42), (.op (.mv (.t 3))), none⟩, ⟨(some 43), (.op (.mv (.t 5))), none⟩, ⟨(some 44), (.op (.iaddrS 1 (.t 42) (.t 43))), none⟩, ⟨(some 45), (.op (.load (.t 44))), none⟩, ⟨(some 46), (.op (.build [(.int .u8 0), (.int .i64 0), (.int .i64 0), (.int .u64 0)] [(0, 1, (.k (.int .u8 9))), (1, 1, (.t 45))])), none⟩, ⟨(some 47), (.op (.bslice 43 [(.int .u8 0), (.int .i64 0), (.int .i64 0), (.int .u64 0)] 1 [(0, 4, (.t 46))])), none⟩, ⟨(some 48), (.op (.append 43 4 32 (.t 41) (.t 47))), none⟩, ⟨(some 4), (.op (.mv (.t 48))), none⟩])
   .skip)))))
   (.reg [⟨(some 19), (.op (.mv (.t 5))), none⟩, ⟨(some 20), (.op (.bin .add (.t 19) (.k (.int .i64 1)))), none⟩, ⟨(some 5), (.op (.mv (.t 20))), none⟩]))))))
  (.seq (.reg [⟨(some 49), (.call (.f 9) []), none⟩, ⟨(some 50), (.op (.mv (.t 49))), none⟩, ⟨(some 51), (.op (.mv (.t 4))), (some (50, true))⟩, ⟨(some 52), (.call (.f 14) [(.t 51)]), (some (50, true))⟩, ⟨(some 53), (.op (.pick (.t 50) (.t 52) (.k (.bool false)))), none⟩, ⟨(some 54), (.op (.mv (.t 53))), none⟩, ⟨(some 55), (.op (.mv (.t 4))), (some (54, true))⟩, ⟨(some 56), (.call (.f 18) [(.t 55)]), (some (54, true))⟩, ⟨(some 57), (.op (.lenS (.t 56))), (some (54, true))⟩, ⟨(some 58), (.op (.bin .eql (.t 57) (.k (.int .i64 0)))), (some (54, true))⟩, ⟨(some 59), (.op (.pick (.t 54) (.t 58) (.k (.bool false)))), none⟩, ⟨(some 60), (.op (.mv (.t 59))), none⟩, ⟨(some 61), (.op (.mv (.t 4))), (some (60, true))⟩, ⟨(some 62), (.call (.f 19) [(.t 61)]), (some (60, true))⟩, ⟨(some 63), (.op (.mv (.t 3))), (some (60, true))⟩, ⟨(some 64), (.op (.lenS (.t 63))), (some (60, true))⟩, ⟨(some 65), (.op (.bin .eql (.t 62) (.t 64))), (some (60, true))⟩, ⟨(some 66), (.op (.pick (.t 60) (.t 65) (.k (.bool false)))), none⟩, ⟨(some 2), (.op (.mv (.t 66))), none⟩])
  .ret)))))))
def a5 : AF := ⟨67, [(.t 2)], .code b5, none⟩
theorem ok5 : AFOk Tryd.prog ext 5 a5 := .of Tryd.func5 (by kernel_rfl) (by kernel_rfl) (by kernel_rfl) (by kernel_rfl)
/-! 6: rowlock/rowlocklaw25.TraceCounts -/
def b6 : AC :=
  (.seq (.reg [⟨(some 2), (.op (.mv (.k (.bool false)))), none⟩])
  (.seq (.reg [⟨(some 10), (.op (.mv (.t 0))), none⟩, ⟨(some 11), (.call (.f 7) [(.t 10)]), none⟩, ⟨(some 0), (.op (.mv (.t 11))), none⟩])
  (.seq (.reg [⟨(some 13), (.op (.mv (.t 0))), none⟩, ⟨(some 14), (.call (.f 20) [(.t 13)]), none⟩, ⟨(some 12), (.op (.mv (.t 14))), none⟩, ⟨(some 15), (.op (.extract (.t 12) 0)), none⟩, ⟨(some 16), (.op (.extract (.t 12) 1)), none⟩, ⟨(some 3), (.op (.mv (.t 15))), none⟩, ⟨(some 4), (.op (.mv (.t 16))), none⟩])
  (.seq (.reg [⟨(some 18), (.op (.mv (.t 0))), none⟩, ⟨(some 19), (.call (.f 21) [(.t 18)]), none⟩, ⟨(some 17), (.op (.mv (.t 19))), none⟩, ⟨(some 20), (.op (.extract (.t 17) 0)), none⟩, ⟨(some 21), (.op (.extract (.t 17) 1)), none⟩, ⟨(some 5), (.op (.mv (.t 20))), none⟩, ⟨(some 6), (.op (.mv (.t 21))), none⟩])
  (.seq (.reg [⟨(some 22), (.op (.mv (.t 0))), none⟩, ⟨(some 23), (.call (.f 18) [(.t 22)]), none⟩, ⟨(some 24), (.op (.mv (.t 0))), none⟩, ⟨(some 25), (.call (.f 22) [(.t 24)]), none⟩, ⟨(some 7), (.op (.mv (.t 23))), none⟩, ⟨(some 8), (.op (.mv (.t 25))), none⟩])
  (.seq (.seq (.reg [⟨(some 26), (.op (.mv (.t 7))), none⟩, ⟨(some 27), (.op (.lenS (.t 26))), none⟩, ⟨(some 28), (.op (.mv (.t 8))), none⟩, ⟨(some 29), (.op (.lenS (.t 28))), none⟩, ⟨(some 30), (.op (.bin .neq (.t 27) (.t 29))), none⟩])
  (.cond (.t 30) (.seq (.reg [⟨(some 2), (.op (.mv (.k (.bool false)))), none⟩])
  .ret)
  .skip))
  (.seq (.seq (.reg [⟨(some 9), (.op (.mv (.k (.int .i64 0)))), none⟩])
  (.block 0 (.loop (.seq (.seq (.reg [⟨(some 31), (.op (.mv (.t 9))), none⟩, ⟨(some 32), (.op (.mv (.t 7))), none⟩, ⟨(some 33), (.op (.lenS (.t 32))), none⟩, ⟨(some 34), (.op (.bin .lss (.t 31) (.t 33))), none⟩])
   (.cond (.t 34) .skip
   (.exit 0)))
   (.seq (.block 1 (.seq (.dreg (.quiet ⟨(some 37), (.op (.mv (.t 7))), none⟩ (.quiet ⟨(some 38), (.op (.mv (.t 9))), none⟩ (.quiet ⟨(some 39), (.op (.iaddrS 2 (.t 37) (.t 38))), none⟩ (.quiet ⟨(some 40), (.op (.loadN 2 (.t 39))), none⟩ (.quiet ⟨(some 41), (.op (.mv (.t 8))), none⟩ (.quiet ⟨(some 42), (.op (.mv (.t 9))), none⟩ (.quiet ⟨(some 43), (.op (.iaddrS 2 (.t 41) (.t 42))), none⟩ (.quiet ⟨(some 44), (.op (.loadN 2 (.t 43))), none⟩ (.quiet ⟨(some 45), (.op (.eq true (.ar 2 1 false .int) (.t 40) (.t 44))), none⟩ .nil))))))))))
   (.cond (.t 45) (.seq (.reg [⟨(some 2), (.op (.mv (.k (.bool false)))), none⟩])
   .ret)
   .skip)))
   (.reg [⟨(some 35), (.op (.mv (.t 9))), none⟩, ⟨(some 36), (.op (.bin .add (.t 35) (.k (.int .i64 1)))), none⟩, ⟨(some 9), (.op (.mv (.t 36))), none⟩]))))))
  (.seq (.reg [⟨(some 46), (.call (.f 9) []), none⟩, ⟨(some 47), (.op (.mv (.t 46))), none⟩, ⟨(some 48), (.op (.mv (.t 0))), (some (47, true))⟩, ⟨(some 49), (.call (.f 10) [(.t 48)]), (some (47, true))⟩, ⟨(some 50), (.op (.mv (.t 0))), (some (47, true))⟩, ⟨(some 51), (.call (.f 23) [(.t 50)]), (some (47, true))⟩, ⟨(some 52), (.op (.eq false (.st [(0, 1, false, .int), (1, 1, false, .int), (2, 1, false, .int), (3, 1, false, .int), (4, 1, false, .int), (5, 1, false, .int)]) (.t 49) (.t 51))), (some (47, true))⟩, ⟨(some 53), (.op (.pick (.t 47) (.t 52) (.k (.bool false)))), none⟩, ⟨(some 54), (.op (.mv (.t 53))), none⟩, ⟨(some 55), (.op (.mv (.t 3))), (some (54, true))⟩, ⟨(some 56), (.op (.mv (.t 5))), (some (54, true))⟩, ⟨(some 57), (.op (.bin .eql (.t 55) (.t 56))), (some (54, true))⟩, ⟨(some 58), (.op (.pick (.t 54) (.t 57) (.k (.bool false)))), none⟩, ⟨(some 59), (.op (.mv (.t 58))), none⟩, ⟨(some 60), (.op (.mv (.t 4))), (some (59, true))⟩, ⟨(some 61), (.op (.mv (.t 6))), (some (59, true))⟩, ⟨(some 62), (.op (.eq false .bool (.t 60) (.t 61))), (some (59, true))⟩, ⟨(some 63), (.op (.pick (.t 59) (.t 62) (.k (.bool false)))), none⟩, ⟨(some 64), (.op (.mv (.t 63))), none⟩, ⟨(some 65), (.op (.mv (.t 0))), (some (64, true))⟩, ⟨(some 66), (.call (.f 19) [(.t 65)]), (some (64, true))⟩, ⟨(some 67), (.op (.mv (.t 0))), (some (64, true))⟩, ⟨(some 68), (.call (.f 24) [(.t 67)]), (some (64, true))⟩, ⟨(some 69), (.op (.bin .eql (.t 66) (.t 68))), (some (64, true))⟩, ⟨(some 70), (.op (.pick (.t 64) (.t 69) (.k (.bool false)))), none⟩, ⟨(some 2), (.op (.mv (.t 70))), none⟩])
  .ret))))))))
def a6 : AF := ⟨71, [(.t 2)], .code b6, none⟩
theorem ok6 : AFOk Tryd.prog ext 6 a6 := .of Tryd.func6 (by kernel_rfl) (by kernel_rfl) (by kernel_rfl) (by kernel_rfl)
/-! 7: rowlock/rowlocklaw25.few -/
def b7 : AC :=
  (.seq (.reg [⟨(some 2), (.op (.mv (.k (.slice none 0 0)))), none⟩])
  (.seq (.seq (.reg [⟨(some 3), (.op (.mv (.t 0))), none⟩, ⟨(some 4), (.op (.lenS (.t 3))), none⟩, ⟨(some 5), (.op (.bin .gtr (.t 4) (.k (.int .i64 60)))), none⟩])
  (.cond (.t 5) (.seq (.reg [⟨(some 6), (.op (.mv (.t 0))), none⟩, ⟨(some 7), (.op (.slice 4 (.t 6) none (some (.k (.int .i64 60))) none)), none⟩, ⟨(some 2), (.op (.mv (.t 7))), none⟩])
  .ret)
  .skip))
  (.seq (.reg [⟨(some 8), (.op (.mv (.t 0))), none⟩, ⟨(some 2), (.op (.mv (.t 8))), none⟩])
  .ret)))
def a7 : AF := ⟨9, [(.t 2)], .code b7, none⟩
theorem ok7 : AFOk Tryd.prog ext 7 a7 := .of Tryd.func7 (by kernel_rfl) (by kernel_rfl) (by kernel_rfl) (by kernel_rfl)
/-! 9: rowlock/rowlocklaw25.live -/
def b9 : AC :=
  (.seq (.reg [⟨(some 0), (.op (.mv (.k (.bool false)))), none⟩])
  (.seq (.reg [⟨(some 7), (.op (.build [(.int .u8 0), (.int .i64 0), (.int .i64 0), (.int .u64 0)] [(0, 1, (.k (.int .u8 1)))])), none⟩, ⟨(some 8), (.op (.build [(.int .u8 0), (.int .i64 0), (.int .i64 0), (.int .u64 0)] [(0, 1, (.k (.int .u8 2))), (2, 1, (.k (.int .i64 1)))])), none⟩, ⟨(some 9), (.op (.build [(.int .u8 0), (.int .i64 0), (.int .i64 0), (.int .u64 0)] [(0, 1, (.k (.int .u8 3))), (2, 1, (.k (.int .i64 1))), (3, 1, (.k (.int .u64 4607182418800017408)))])), none⟩, ⟨(some 10), (.op (.bslice 43 [(.int .u8 0), (.int .i64 0), (.int .i64 0), (.int .u64 0), (.int .u8 0), (.int .i64 0), (.int .i64 0), (.int .u64 0), (.int .u8 0), (.int .i64 0), (.int .i64 0), (.int .u64 0)] 3 [(0, 4, (.t 7)), (4, 4, (.t 8)), (8, 4, (.t 9))])), none⟩, ⟨(some 1), (.op (.mv (.t 10))), none⟩])
  (.seq (.reg [⟨(some 12), (.op (.mv (.t 1))), none⟩, ⟨(some 13), (.call (.f 26) [(.t 12)]), none⟩, ⟨(some 11), (.op (.mv (.t 13))), none⟩, ⟨(some 14), (.op (.extract (.t 11) 0)), none⟩, ⟨(some 15), (.op (.extract (.t 11) 1)), none⟩, ⟨(some 2), (.op (.mv (.t 14))), none⟩, ⟨(some 3), (.op (.mv (.t 15))), none⟩])
  (.seq (.reg [⟨(some 16), (.op (.mv (.t 1))), none⟩, ⟨(some 17), (.call (.f 10) [(.t 16)]), none⟩, ⟨(some 4), (.op (.alloc 29 [(.int .i64 0), (.int .i64 0), (.int .i64 0), (.int .i64 0), (.int .i64 0), (.int .i64 0)])), none⟩, ⟨none, (.op (.store 6 (.t 4) (.t 17))), none⟩])
  (.seq (.reg [⟨(some 19), (.op (.mv (.t 1))), none⟩, ⟨(some 20), (.call (.f 20) [(.t 19)]), none⟩, ⟨(some 18), (.op (.mv (.t 20))), none⟩, ⟨(some 21), (.op (.extract (.t 18) 0)), none⟩, ⟨(some 22), (.op (.extract (.t 18) 1)), none⟩, ⟨(some 5), (.op (.mv (.t 21))), none⟩, ⟨(some 6), (.op (.mv (.t 22))), none⟩])
  (.seq (.reg [⟨(some 23), (.op (.mv (.t 3))), none⟩, ⟨(some 24), (.op (.bin .eql (.t 23) (.k (.int .i64 0)))), none⟩, ⟨(some 25), (.op (.mv (.t 24))), none⟩, ⟨(some 26), (.op (.mv (.t 2))), (some (25, true))⟩, ⟨(some 27), (.op (.bin .eql (.t 26) (.k (.string ⟨#[98, 101, 103, 105, 110, 32, 48, 10, 114, 101, 97, 100, 32, 48, 32, 49, 32, 48, 48, 48, 48, 48, 48, 48, 48, 48, 48, 48, 48, 48, 48, 48, 48, 10, 119, 114, 105, 116, 101, 32, 48, 32, 49, 32, 51, 102, 102, 48, 48, 48, 48, 48, 48, 48, 48, 48, 48, 48, 48, 48, 10]⟩)))), (some (25, true))⟩, ⟨(some 28), (.op (.pick (.t 25) (.t 27) (.k (.bool false)))), none⟩, ⟨(some 29), (.op (.mv (.t 28))), none⟩, ⟨(some 30), (.op (.faddr 0 (.t 4))), (some (29, true))⟩, ⟨(some 31), (.op (.load (.t 30))), (some (29, true))⟩, ⟨(some 32), (.op (.bin .eql (.t 31) (.k (.int .i64 1)))), (some (29, true))⟩, ⟨(some 33), (.op (.pick (.t 29) (.t 32) (.k (.bool false)))), none⟩, ⟨(some 34), (.op (.mv (.t 33))), none⟩, ⟨(some 35), (.op (.faddr 3 (.t 4))), (some (34, true))⟩, ⟨(some 36), (.op (.load (.t 35))), (some (34, true))⟩, ⟨(some 37), (.op (.bin .eql (.t 36) (.k (.int .i64 1)))), (some (34, true))⟩, ⟨(some 38), (.op (.pick (.t 34) (.t 37) (.k (.bool false)))), none⟩, ⟨(some 39), (.op (.mv (.t 38))), none⟩, ⟨(some 40), (.op (.faddr 4 (.t 4))), (some (39, true))⟩, ⟨(some 41), (.op (.load (.t 40))), (some (39, true))⟩, ⟨(some 42), (.op (.bin .eql (.t 41) (.k (.int .i64 1)))), (some (39, true))⟩, ⟨(some 43), (.op (.pick (.t 39) (.t 42) (.k (.bool false)))), none⟩, ⟨(some 44), (.op (.mv (.t 43))), none⟩, ⟨(some 45), (.op (.faddr 5 (.t 4))), (some (44, true))⟩, ⟨(some 46), (.op (.load (.t 45))), (some (44, true))⟩, ⟨(some 47), (.op (.bin .eql (.t 46) (.k (.int .i64 1)))), (some (44, true))⟩, ⟨(some 48), (.op (.pick (.t 44) (.t 47) (.k (.bool false)))), none⟩, ⟨(some 49), (.op (.mv (.t 48))), none⟩, ⟨(some 50), (.op (.mv (.t 6))), (some (49, true))⟩, ⟨(some 51), (.op (.pick (.t 49) (.t 50) (.k (.bool false)))), none⟩, ⟨(some 52), (.op (.mv (.t 51))), none⟩, ⟨(some 53), (.op (.mv (.t 5))), (some (52, true))⟩, ⟨(some 54), (.op (.bin .eql (.t 53) (.k (.int .i64 1)))), (some (52, true))⟩, ⟨(some 55), (.op (.pick (.t 52) (.t 54) (.k (.bool false)))), none⟩, ⟨(some 56), (.op (.mv (.t 55))), none⟩, ⟨(some 57), (.op (.mv (.t 1))), (some (56, true))⟩, ⟨(some 58), (.call (.f 19) [(.t 57)]), (some (56, true))⟩, ⟨(some 59), (.op (.bin .eql (.t 58) (.k (.int .i64 1)))), (some (56, true))⟩, ⟨(some 60), (.op (.pick (.t 56) (.t 59) (.k (.bool false)))), none⟩, ⟨(some 0), (.op (.mv (.t 60))), none⟩])
  .ret))))))
def a9 : AF := ⟨61, [(.t 0)], .code b9, none⟩
theorem ok9 : AFOk Tryd.prog ext 9 a9 := .of Tryd.func9 (by kernel_rfl) (by kernel_rfl) (by kernel_rfl) (by kernel_rfl)
/-! 10: rowlock/trace.CountsOf -/
def b10 : AC :=
  (.seq (.reg [⟨(some 2), (.op (.alloc 29 [(.int .i64 0), (.int .i64 0), (.int .i64 0), (.int .i64 0), (.int .i64 0), (.int .i64 0)])), none⟩])
  (.seq (.reg [⟨(some 3), (.op (.alloc 29 [(.int .i64 0), (.int .i64 0), (.int .i64 0), (.int .i64 0), (.int .i64 0), (.int .i64 0)])), none⟩])
  (.seq (.seq (.reg [⟨(some 8), (.op (.mv (.t 0))), none⟩, ⟨(some 9), (.call (.f 11) [(.t 8)]), none⟩, ⟨(some 10), (.op (.lenS (.t 9))), none⟩, ⟨(some 11), (.op (.mv (.k (.int .i64 0)))), none⟩])
  (.block 0 (.loop (.seq (.reg [⟨(some 12), (.op (.bin .lss (.t 11) (.t 10))), none⟩])
   (.seq (.cond (.t 12) .skip
   (.exit 0))
   (.seq (.block 1 (.seq (.reg [⟨(some 13), (.op (.iaddrS 1 (.t 9) (.t 11))), none⟩, ⟨(some 14), (.op (.load (.t 13))), none⟩, ⟨(some 5), (.op (.mv (.t 14))), none⟩])
   (.seq (.reg [⟨(some 15), (.op (.faddr 0 (.t 3))), none⟩, ⟨(some 16), (.op (.load (.t 15))), none⟩, ⟨(some 17), (.op (.bin .add (.t 16) (.k (.int .i64 1)))), none⟩, ⟨(some 18), (.op (.faddr 0 (.t 3))), none⟩, ⟨none, (.op (.store 1 (.t 18) (.t 17))), none⟩])
   (.seq (.reg [⟨(some 19), (.op (.mv (.t 0))), none⟩, ⟨(some 20), (.op (.mv (.t 5))), none⟩, ⟨(some 21), (.call (.f 12) [(.t 19), (.t 20)]), none⟩])
   (.block 2 (.seq (.reg [⟨(some 27), (.op (.bin .eql (.t 21) (.k (.int .u8 3)))), none⟩, ⟨(some 26), (.op (.mv (.t 27))), none⟩])
   (.cond (.t 26) (.reg [⟨(some 28), (.op (.faddr 1 (.t 3))), none⟩, ⟨(some 29), (.op (.load (.t 28))), none⟩, ⟨(some 30), (.op (.bin .add (.t 29) (.k (.int .i64 1)))), none⟩, ⟨(some 31), (.op (.faddr 1 (.t 3))), none⟩, ⟨none, (.op (.store 1 (.t 31) (.t 30))), none⟩])
   (.seq (.reg [⟨(some 33), (.op (.bin .eql (.t 21) (.k (.int .u8 4)))), none⟩, ⟨(some 32), (.op (.mv (.t 33))), none⟩])
   (.cond (.t 32) (.reg [⟨(some 34), (.op (.faddr 2 (.t 3))), none⟩, ⟨(some 35), (.op (.load (.t 34))), none⟩, ⟨(some 36), (.op (.bin .add (.t 35) (.k (.int .i64 1)))), none⟩, ⟨(some 37), (.op (.faddr 2 (.t 3))), none⟩, ⟨none, (.op (.store 1 (.t 37) (.t 36))), none⟩])
   (.reg [⟨(some 22), (.op (.faddr 3 (.t 3))), none⟩, ⟨(some 23), (.op (.load (.t 22))), none⟩, ⟨(some 24), (.op (.bin .add (.t 23) (.k (.int .i64 1)))), none⟩, ⟨(some 25), (.op (.faddr 3 (.t 3))), none⟩, ⟨none, (.op (.store 1 (.t 25) (.t 24))), none⟩]))))))))))
   (.reg [⟨(some 38), (.op (.bin .add (.t 11) (.k (.int .i64 1)))), none⟩, ⟨(some 11), (.op (.mv (.t 38))), none⟩])))))))
  (.seq (.seq (.reg [⟨(some 39), (.op (.mv (.t 0))), none⟩, ⟨(some 40), (.op (.lenS (.t 39))), none⟩, ⟨(some 41), (.op (.mv (.k (.int .i64 0)))), none⟩])
  (.block 3 (.loop (.seq (.reg [⟨(some 42), (.op (.bin .lss (.t 41) (.t 40))), none⟩])
   (.seq (.cond (.t 42) .skip
   (.exit 3))
   (.seq (.block 4 (.seq (.reg [⟨(some 43), (.op (.iaddrS 4 (.t 39) (.t 41))), none⟩, ⟨(some 44), (.op (.loadN 4 (.t 43))), none⟩, ⟨(some 7), (.op (.alloc 43 [(.int .u8 0), (.int .i64 0), (.int .i64 0), (.int .u64 0)])), none⟩, ⟨none, (.op (.store 4 (.t 7) (.t 44))), none⟩])
   (.seq (.reg [⟨(some 45), (.op (.faddr 0 (.t 7))), none⟩, ⟨(some 46), (.op (.load (.t 45))), none⟩])
   (.block 5 (.seq (.reg [⟨(some 48), (.op (.bin .eql (.t 46) (.k (.int .u8 2)))), none⟩, ⟨(some 47), (.op (.mv (.t 48))), none⟩])
   (.cond (.t 47) (.reg [⟨(some 49), (.op (.faddr 4 (.t 3))), none⟩, ⟨(some 50), (.op (.load (.t 49))), none⟩, ⟨(some 51), (.op (.bin .add (.t 50) (.k (.int .i64 1)))), none⟩, ⟨(some 52), (.op (.faddr 4 (.t 3))), none⟩, ⟨none, (.op (.store 1 (.t 52) (.t 51))), none⟩])
   (.seq (.reg [⟨(some 54), (.op (.bin .eql (.t 46) (.k (.int .u8 3)))), none⟩, ⟨(some 53), (.op (.mv (.t 54))), none⟩])
   (.cond (.t 53) (.reg [⟨(some 55), (.op (.faddr 5 (.t 3))), none⟩, ⟨(some 56), (.op (.load (.t 55))), none⟩, ⟨(some 57), (.op (.bin .add (.t 56) (.k (.int .i64 1)))), none⟩, ⟨(some 58), (.op (.faddr 5 (.t 3))), none⟩, ⟨none, (.op (.store 1 (.t 58) (.t 57))), none⟩])
   .skip))))))))
   (.reg [⟨(some 59), (.op (.bin .add (.t 41) (.k (.int .i64 1)))), none⟩, ⟨(some 41), (.op (.mv (.t 59))), none⟩])))))))
  (.seq (.reg [⟨(some 60), (.op (.loadN 6 (.t 3))), none⟩, ⟨none, (.op (.store 6 (.t 2) (.t 60))), none⟩])
  .ret)))))
def a10 : AF := ⟨61, [(.c 2 true 6)], .code b10, none⟩
theorem ok10 : AFOk Tryd.prog ext 10 a10 := .of Tryd.func10 (by kernel_rfl) (by kernel_rfl) (by kernel_rfl) (by kernel_rfl)
/-! 11: rowlock/history.Attempts -/
def b11 : AC :=
  (.seq (.reg [⟨(some 2), (.op (.mv (.k (.slice none 0 0)))), none⟩])
  (.seq (.reg [⟨(some 3), (.op (.mv (.k (.slice none 0 0)))), none⟩])
  (.seq (.seq (.reg [⟨(some 6), (.op (.mv (.t 0))), none⟩, ⟨(some 7), (.op (.lenS (.t 6))), none⟩, ⟨(some 8), (.op (.mv (.k (.int .i64 0)))), none⟩])
  (.block 0 (.loop (.seq (.reg [⟨(some 9), (.op (.bin .lss (.t 8) (.t 7))), none⟩])
   (.seq (.cond (.t 9) .skip
   (.exit 0))
   (.seq (.block 1 (.seq (.reg [⟨(some 10), (.op (.iaddrS 4 (.t 6) (.t 8))), none⟩, ⟨(some 11), (.op (.loadN 4 (.t 10))), none⟩, ⟨(some 5), (.op (.alloc 43 [(.int .u8 0), (.int .i64 0), (.int .i64 0), (.int .u64 0)])), none⟩, ⟨none, (.op (.store 4 (.t 5) (.t 11))), none⟩])
   (.seq (.reg [⟨(some 12), (.op (.faddr 0 (.t 5))), none⟩, ⟨(some 13), (.op (.load (.t 12))), none⟩, ⟨(some 14), (.op (.bin .eql (.t 13) (.k (.int .u8 1)))), none⟩, ⟨(some 15), (.op (.mv (.t 14))), none⟩, ⟨(some 16), (.op (.mv (.t 3))), (some (15, true))⟩, ⟨(some 17), (.op (.faddr 1 (.t 5))), (some (15, true))⟩, ⟨(some 18), (.op (.load (.t 17))), (some (15, true))⟩, ⟨(some 19), (.call (.f 27) [(.t 16), (.t 18)]), (some (15, true))⟩, ⟨(some 20), (.op (.un .not (.t 19))), (some (15, true))⟩, ⟨(some 21), (.op (.pick (.t 15) (.t 20) (.k (.bool false)))), none⟩])
   (.cond (.t 21) (.reg [⟨(some 22), (.op (.mv (.t 3))), none⟩, ⟨(some 23), (.op (.faddr 1 (.t 5))), none⟩, ⟨(some 24), (.op (.load (.t 23))), none⟩, ⟨(some 25), (.op (.bslice 3 [(.int .i64 0)] 1 [(0, 1, (.t 24))])), none⟩, ⟨(some 26), (.op (.append 3 1 8 (.t 22) (.t 25))), none⟩, ⟨(some 3), (.op (.mv (.t 26))), none⟩])
   .skip))))
   (.reg [⟨(some 27), (.op (.bin .add (.t 8) (.k (.int .i64 1)))), none⟩, ⟨(some 8), (.op (.mv (.t 27))), none⟩])))))))
  (.seq (.reg [⟨(some 28), (.op (.mv (.t 3))), none⟩, ⟨(some 2), (.op (.mv (.t 28))), none⟩])
  .ret))))
def a11 : AF := ⟨29, [(.t 2)], .code b11, none⟩
theorem ok11 : AFOk Tryd.prog ext 11 a11 := .of Tryd.func11 (by kernel_rfl) (by kernel_rfl) (by kernel_rfl) (by kernel_rfl)
/-! 12: rowlock/history.StateOf -/
def b12 : AC :=
  (.seq (.reg [⟨(some 4), (.op (.mv (.k (.int .u8 0)))), none⟩])
  (.seq (.reg [⟨(some 5), (.op (.mv (.k (.bool false)))), none⟩, ⟨(some 6), (.op (.mv (.k (.int .u8 1)))), none⟩])
  (.seq (.seq (.reg [⟨(some 9), (.op (.mv (.t 0))), none⟩, ⟨(some 10), (.op (.mv (.t 1))), none⟩, ⟨(some 11), (.call (.f 17) [(.t 9), (.t 10)]), none⟩, ⟨(some 12), (.op (.lenS (.t 11))), none⟩, ⟨(some 13), (.op (.mv (.k (.int .i64 0)))), none⟩])
  (.block 0 (.loop (.seq (.reg [⟨(some 14), (.op (.bin .lss (.t 13) (.t 12))), none⟩])
   (.seq (.cond (.t 14) .skip
   (.exit 0))
   (.seq (.block 1 (.seq (.reg [⟨(some 15), (.op (.iaddrS 4 (.t 11) (.t 13))), none⟩, ⟨(some 16), (.op (.loadN 4 (.t 15))), none⟩, ⟨(some 8), (.op (.alloc 43 [(.int .u8 0), (.int .i64 0), (.int .i64 0), (.int .u64 0)])), none⟩, ⟨none, (.op (.store 4 (.t 8) (.t 16))), none⟩])
   (.seq (.reg [⟨(some 17), (.op (.faddr 0 (.t 8))), none⟩, ⟨(some 18), (.op (.load (.t 17))), none⟩])
   (.block 2 (.seq (.reg [⟨(some 20), (.op (.bin .eql (.t 18) (.k (.int .u8 1)))), none⟩, ⟨(some 19), (.op (.mv (.t 20))), none⟩])
   (.cond (.t 19) (.reg [⟨(some 5), (.op (.mv (.k (.bool true)))), none⟩])
   (.seq (.reg [⟨(some 22), (.op (.bin .eql (.t 18) (.k (.int .u8 7)))), none⟩, ⟨(some 21), (.op (.mv (.t 22))), none⟩])
   (.cond (.t 21) (.reg [⟨(some 6), (.op (.mv (.k (.int .u8 2)))), none⟩])
   (.seq (.reg [⟨(some 24), (.op (.bin .eql (.t 18) (.k (.int .u8 8)))), none⟩, ⟨(some 23), (.op (.mv (.t 24))), none⟩])
   (.cond (.t 23) (.reg [⟨(some 6), (.op (.mv (.k (.int .u8 3)))), none⟩])
   (.seq (.reg [⟨(some 26), (.op (.bin .eql (.t 18) (.k (.int .u8 9)))), none⟩, ⟨(some 25), (.op (.mv (.t 26))), none⟩])
   (.cond (.t 25) (.reg [⟨(some 6), (.op (.mv (.k (.int .u8 4)))), none⟩])
   .skip))))))))))))
   (.reg [⟨(some 27), (.op (.bin .add (.t 13) (.k (.int .i64 1)))), none⟩, ⟨(some 13), (.op (.mv (.t 27))), none⟩])))))))
  (.seq (.seq (.reg [⟨(some 28), (.op (.mv (.t 5))), none⟩, ⟨(some 29), (.op (.un .not (.t 28))), none⟩])
  (.cond (.t 29) (.seq (.reg [⟨(some 4), (.op (.mv (.k (.int .u8 0)))), none⟩])
  .ret)
  .skip))
  (.seq (.reg [⟨(some 30), (.op (.mv (.t 6))), none⟩, ⟨(some 4), (.op (.mv (.t 30))), none⟩])
  .ret)))))
def a12 : AF := ⟨31, [(.t 4)], .code b12, none⟩
theorem ok12 : AFOk Tryd.prog ext 12 a12 := .of Tryd.func12 (by kernel_rfl) (by kernel_rfl) (by kernel_rfl) (by kernel_rfl)
/-! 13: rowlock/history.Before -/
def b13 : AC :=
  (.seq (.reg [⟨(some 6), (.op (.mv (.k (.bool false)))), none⟩])
  (.seq (.reg [⟨(some 7), (.op (.mv (.k (.bool false)))), none⟩])
  (.seq (.seq (.reg [⟨(some 10), (.op (.mv (.t 0))), none⟩, ⟨(some 11), (.op (.lenS (.t 10))), none⟩, ⟨(some 12), (.op (.mv (.k (.int .i64 0)))), none⟩])
  (.block 0 (.loop (.seq (.reg [⟨(some 13), (.op (.bin .lss (.t 12) (.t 11))), none⟩])
   (.seq (.cond (.t 13) .skip
   (.exit 0))
   (.seq (.block 1 (.seq (.reg [⟨(some 14), (.op (.iaddrS 4 (.t 10) (.t 12))), none⟩, ⟨(some 15), (.op (.loadN 4 (.t 14))), none⟩, ⟨(some 9), (.op (.alloc 43 [(.int .u8 0), (.int .i64 0), (.int .i64 0), (.int .u64 0)])), none⟩, ⟨none, (.op (.store 4 (.t 9) (.t 15))), none⟩])
   (.seq (.seq (.reg [⟨(some 16), (.op (.faddr 1 (.t 9))), none⟩, ⟨(some 17), (.op (.load (.t 16))), none⟩, ⟨(some 18), (.op (.mv (.t 2))), none⟩, ⟨(some 19), (.op (.bin .eql (.t 17) (.t 18))), none⟩, ⟨(some 20), (.op (.mv (.t 19))), none⟩, ⟨(some 21), (.op (.faddr 0 (.t 9))), (some (20, true))⟩, ⟨(some 22), (.op (.load (.t 21))), (some (20, true))⟩, ⟨(some 23), (.op (.bin .eql (.t 22) (.k (.int .u8 1)))), (some (20, true))⟩, ⟨(some 24), (.op (.pick (.t 20) (.t 23) (.k (.bool false)))), none⟩])
   (.cond (.t 24) (.seq (.reg [⟨(some 25), (.op (.mv (.t 7))), none⟩, ⟨(some 6), (.op (.mv (.t 25))), none⟩])
   .ret)
   .skip))
   (.seq (.reg [⟨(some 26), (.op (.faddr 1 (.t 9))), none⟩, ⟨(some 27), (.op (.load (.t 26))), none⟩, ⟨(some 28), (.op (.mv (.t 1))), none⟩, ⟨(some 29), (.op (.bin .eql (.t 27) (.t 28))), none⟩, ⟨(some 30), (.op (.mv (.t 29))), none⟩, ⟨(some 31), (.op (.faddr 0 (.t 9))), (some (30, true))⟩, ⟨(some 32), (.op (.load (.t 31))), (some (30, true))⟩, ⟨(some 33), (.op (.bin .eql (.t 32) (.k (.int .u8 8)))), (some (30, true))⟩, ⟨(some 34), (.op (.mv (.t 33))), (some (30, true))⟩, ⟨(some 35), (.op (.faddr 0 (.t 9))), (some (34, false))⟩, ⟨(some 36), (.op (.load (.t 35))), (some (34, false))⟩, ⟨(some 37), (.op (.bin .eql (.t 36) (.k (.int .u8 9)))), (some (34, false))⟩, ⟨(some 38), (.op (.pick (.t 34) (.k (.bool true)) (.t 37))), (some (30, true))⟩, ⟨(some 39), (.op (.pick (.t 30) (.t 38) (.k (.bool false)))), none⟩])
   (.cond (.t 39) (.reg [⟨(some 7), (.op (.mv (.k (.bool true)))), none⟩])
   .skip)))))
   (.reg [⟨(some 40), (.op (.bin .add (.t 12) (.k (.int .i64 1)))), none⟩, ⟨(some 12), (.op (.mv (.t 40))), none⟩])))))))
  (.seq (.reg [⟨(some 6), (.op (.mv (.k (.bool false)))), none⟩])
  .ret))))
def a13 : AF := ⟨41, [(.t 6)], .code b13, none⟩
theorem ok13 : AFOk Tryd.prog ext 13 a13 := .of Tryd.func13 (by kernel_rfl) (by kernel_rfl) (by kernel_rfl) (by kernel_rfl)
/-! 14: rowlock/history.Right -/
def b14 : AB :=
  (.thn (.reg [⟨(some 2), (.op (.alloc 4 [(.bool false)])), none⟩])
  (.thn (.seq (.reg [⟨(some 6), (.op (.mv (.t 0))), none⟩, ⟨(some 7), (.op (.lenS (.t 6))), none⟩, ⟨(some 8), (.op (.bin .gtr (.t 7) (.k (.int .i64 400)))), none⟩])
  (.cond (.t 8) (.seq (.reg [⟨none, (.op (.store 1 (.t 2) (.k (.bool false)))), none⟩])
  .ret)
  .skip))
  (.dfr [⟨(some 9), (.op (.mkfunc 28 [] [(.t 2)])), none⟩] (.t 9)
  (.seq (.reg [⟨(some 10), (.op (.mkmap)), none⟩, ⟨(some 3), (.op (.mv (.t 10))), none⟩])
  (.seq (.seq (.reg [⟨(some 11), (.op (.mv (.t 0))), none⟩, ⟨(some 12), (.op (.lenS (.t 11))), none⟩, ⟨(some 13), (.op (.mv (.k (.int .i64 0)))), none⟩])
  (.block 0 (.loop (.seq (.reg [⟨(some 14), (.op (.bin .lss (.t 13) (.t 12))), none⟩])
   (.seq (.cond (.t 14) .skip
   (.exit 0))
   (.seq (.block 1 (.seq (.reg [⟨(some 15), (.op (.iaddrS 4 (.t 11) (.t 13))), none⟩, ⟨(some 16), (.op (.loadN 4 (.t 15))), none⟩, ⟨(some 5), (.op (.alloc 43 [(.int .u8 0), (.int .i64 0), (.int .i64 0), (.int .u64 0)])), none⟩, ⟨none, (.op (.store 4 (.t 5) (.t 16))), none⟩])
   (.reg [⟨(some 17), (.op (.mv (.t 3))), none⟩, ⟨(some 18), (.op (.loadN 4 (.t 5))), none⟩, ⟨(some 19), (.call (.f 29) [(.t 17), (.t 18)]), none⟩])))
   (.reg [⟨(some 20), (.op (.bin .add (.t 13) (.k (.int .i64 1)))), none⟩, ⟨(some 13), (.op (.mv (.t 20))), none⟩])))))))
  (.seq (.reg [⟨none, (.op (.store 1 (.t 2) (.k (.bool true)))), none⟩])
  .ret))))))
def a14 : AF := ⟨21, [(.c 2 false 1)], b14, none⟩
theorem ok14 : AFOk Tryd.prog ext 14 a14 := .of Tryd.func14 (by kernel_rfl) (by kernel_rfl) (by kernel_rfl) (by kernel_rfl)
/-! 17: rowlock/history.Cut -/
def b17 : AC :=
  (.seq (.reg [⟨(some 4), (.op (.mv (.k (.slice none 0 0)))), none⟩])
  (.seq (.reg [⟨(some 5), (.op (.mv (.k (.slice none 0 0)))), none⟩])
  (.seq (.seq (.reg [⟨(some 8), (.op (.mv (.t 0))), none⟩, ⟨(some 9), (.op (.lenS (.t 8))), none⟩, ⟨(some 10), (.op (.mv (.k (.int .i64 0)))), none⟩])
  (.block 0 (.loop (.seq (.reg [⟨(some 11), (.op (.bin .lss (.t 10) (.t 9))), none⟩])
   (.seq (.cond (.t 11) .skip
   (.exit 0))
   (.seq (.block 1 (.seq (.reg [⟨(some 12), (.op (.iaddrS 4 (.t 8) (.t 10))), none⟩, ⟨(some 13), (.op (.loadN 4 (.t 12))), none⟩, ⟨(some 7), (.op (.alloc 43 [(.int .u8 0), (.int .i64 0), (.int .i64 0), (.int .u64 0)])), none⟩, ⟨none, (.op (.store 4 (.t 7) (.t 13))), none⟩])
   (.seq (.reg [⟨(some 14), (.op (.faddr 1 (.t 7))), none⟩, ⟨(some 15), (.op (.load (.t 14))), none⟩, ⟨(some 16), (.op (.mv (.t 1))), none⟩, ⟨(some 17), (.op (.bin .eql (.t 15) (.t 16))), none⟩])
   (.cond (.t 17) (.reg [⟨(some 18), (.op (.mv (.t 5))), none⟩, ⟨(some 19), (.op (.loadN 4 (.t 7))), none⟩, ⟨(some 20), (.op (.bslice 43 [(.int .u8 0), (.int .i64 0), (.int .i64 0), (.int .u64 0)] 1 [(0, 4, (.t 19))])), none⟩, ⟨(some 21), (.op (.append 43 4 32 (.t 18) (.t 20))), none⟩, ⟨(some 5), (.op (.mv (.t 21))), none⟩])
   .skip))))
   (.reg [⟨(some 22), (.op (.bin .add (.t 10) (.k (.int .i64 1)))), none⟩, ⟨(some 10), (.op (.mv (.t 22))), none⟩])))))))
  (.seq (.reg [⟨(some 23), (.op (.mv (.t 5))), none⟩, ⟨(some 4), (.op (.mv (.t 23))), none⟩])
  .ret))))
def a17 : AF := ⟨24, [(.t 4)], .code b17, none⟩
theorem ok17 : AFOk Tryd.prog ext 17 a17 := .of Tryd.func17 (by kernel_rfl) (by kernel_rfl) (by kernel_rfl) (by kernel_rfl)
/-! 18: rowlock/trace.Conflicts -/
def b18 : AC :=
  (.seq (.reg [⟨(some 2), (.op (.mv (.k (.slice none 0 0)))), none⟩])
  (.seq (.reg [⟨(some 3), (.op (.mv (.k (.slice none 0 0)))), none⟩])
  (.seq (.reg [⟨(some 10), (.op (.mv (.t 0))), none⟩, ⟨(some 11), (.call (.f 11) [(.t 10)]), none⟩, ⟨(some 4), (.op (.mv (.t 11))), none⟩])
  (.seq (.seq (.reg [⟨(some 12), (.op (.mv (.t 4))), none⟩, ⟨(some 13), (.op (.lenS (.t 12))), none⟩, ⟨(some 14), (.op (.mv (.k (.int .i64 0)))), none⟩])
  (.block 0 (.loop (.seq (.reg [⟨(some 15), (.op (.bin .lss (.t 14) (.t 13))), none⟩])
   (.seq (.cond (.t 15) .skip
   (.exit 0))
   (.seq (.block 1 (.seq (.reg [⟨(some 16), (.op (.mv (.t 14))), none⟩, ⟨(some 17), (.op (.iaddrS 1 (.t 12) (.t 14))), none⟩, ⟨(some 18), (.op (.load (.t 17))), none⟩, ⟨(some 5), (.op (.mv (.t 16))), none⟩, ⟨(some 6), (.op (.mv (.t 18))), none⟩])
   (.seq (.reg [⟨(some 19), (.op (.mv (.t 0))), none⟩, ⟨(some 20), (.op (.mv (.t 6))), none⟩, ⟨(some 21), (.call (.f 32) [(.t 19), (.t 20)]), none⟩, ⟨(some 7), (.op (.mv (.t 21))), none⟩])
   (.seq (.reg [⟨(some 22), (.op (.mv (.t 4))), none⟩, ⟨(some 23), (.op (.mv (.t 5))), none⟩, ⟨(some 24), (.op (.bin .add (.t 23) (.k (.int .i64 1)))), none⟩, ⟨(some 25), (.op (.slice 1 (.t 22) (some (.t 24)) none none)), none⟩, ⟨(some 26), (.op (.lenS (.t 25))), none⟩, ⟨(some 27), (.op (.mv (.k (.int .i64 0)))), none⟩])
   (.block 2 (.loop (.seq (.reg [⟨(some 28), (.op (.bin .lss (.t 27) (.t 26))), none⟩])
    (.seq (.cond (.t 28) .skip
    (.exit 2))
    (.seq (.block 3 (.seq (.reg [⟨(some 29), (.op (.iaddrS 1 (.t 25) (.t 27))), none⟩, ⟨(some 30), (.op (.load (.t 29))), none⟩, ⟨(some 9), (.op (.mv (.t 30))), none⟩])
    (.seq (.reg [⟨(some 31), (.op (.mv (.t 7))), none⟩, ⟨(some 32), (.op (.mv (.t 0))), none⟩, ⟨(some 33), (.op (.mv (.t 9))), none⟩, ⟨(some 34), (.call (.f 32) [(.t 32), (.t 33)]), none⟩, ⟨(some 35), (.call (.f 33) [(.t 31), (.t 34)]), none⟩, ⟨(some 36), (.op (.mv (.t 35))), none⟩, ⟨(some 37), (.op (.mv (.t 0))), (some (36, true))⟩, ⟨(some 38), (.op (.mv (.t 6))), (some (36, true))⟩, ⟨(some 39), (.op (.mv (.t 9))), (some (36, true))⟩, ⟨(some 40), (.call (.f 34) [(.t 37), (.t 38), (.t 39)]), (some (36, true))⟩, ⟨(some 41), (.op (.un .not (.t 40))), (some (36, true))⟩, ⟨(some 42), (.op (.pick (.t 36) (.t 41) (.k (.bool false)))), none⟩])
    (.cond (.t 42) (.reg [⟨(some 43), (.op (.mv (.t 3))), none⟩, ⟨(some 44), (.op (.mv (.t 6))), none⟩, ⟨(some 45), (.op (.mv (.t 9))), none⟩, ⟨(some 46), (.op (.build [(.int .i64 0), (.int .i64 0)] [(0, 1, (.t 44)), (1, 1, (.t 45))])), none⟩, ⟨(some 47), (.op (.bslice 49 [(.int .i64 0), (.int .i64 0)] 1 [(0, 2, (.t 46))])), none⟩, ⟨(some 48), (.op (.append 49 2 16 (.t 43) (.t 47))), none⟩, ⟨(some 3), (.op (.mv (.t 48))), none⟩])
    .skip))))
    (.reg [⟨(some 49), (.op (.bin .add (.t 27) (.k (.int .i64 1)))), none⟩, ⟨(some 27), (.op (.mv (.t 49))), none⟩]))))))))))
   (.reg [⟨(some 50), (.op (.bin .add (.t 14) (.k (.int .i64 1)))), none⟩, ⟨(some 14), (.op (.mv (.t 50))), none⟩])))))))
  (.seq (.reg [⟨(some 51), (.op (.mv (.t 3))), none⟩, ⟨(some 2), (.op (.mv (.t 51))), none⟩])
  .ret)))))
def a18 : AF := ⟨52, [(.t 2)], .code b18, none⟩
theorem ok18 : AFOk Tryd.prog ext 18 a18 := .of Tryd.func18 (by kernel_rfl) (by kernel_rfl) (by kernel_rfl) (by kernel_rfl)
/-! 19: rowlock/trace.Chains -/
def b19 : AC :=
  (.seq (.reg [⟨(some 2), (.op (.mv (.k (.int .i64 0)))), none⟩])
  (.seq (.seq (.reg [⟨(some 10), (.op (.mv (.t 0))), none⟩, ⟨(some 11), (.call (.f 14) [(.t 10)]), none⟩, ⟨(some 12), (.op (.un .not (.t 11))), none⟩])
  (.cond (.t 12) (.seq (.reg [⟨(some 2), (.op (.mv (.k (.int .i64 0)))), none⟩])
  .ret)
  .skip))
  (.seq (.reg [⟨(some 3), (.op (.mv (.k (.int .i64 0)))), none⟩])
  (.seq (.reg [⟨(some 13), (.op (.mkmap)), none⟩, ⟨(some 4), (.op (.mv (.t 13))), none⟩])
  (.seq (.reg [⟨(some 5), (.op (.mv (.k (.slice none 0 0)))), none⟩])
  (.seq (.seq (.reg [⟨(some 14), (.op (.mv (.t 0))), none⟩, ⟨(some 15), (.call (.f 11) [(.t 14)]), none⟩, ⟨(some 16), (.op (.lenS (.t 15))), none⟩, ⟨(some 17), (.op (.mv (.k (.int .i64 0)))), none⟩])
  (.block 0 (.loop (.seq (.reg [⟨(some 18), (.op (.bin .lss (.t 17) (.t 16))), none⟩])
   (.seq (.cond (.t 18) .skip
   (.exit 0))
   (.seq (.block 1 (.seq (.reg [⟨(some 19), (.op (.iaddrS 1 (.t 15) (.t 17))), none⟩, ⟨(some 20), (.op (.load (.t 19))), none⟩, ⟨(some 7), (.op (.mv (.t 20))), none⟩])
   (.seq (.reg [⟨(some 21), (.op (.mv (.t 4))), none⟩, ⟨(some 22), (.op (.mv (.t 7))), none⟩, ⟨none, (.op (.mapupd false (.t 21) (.t 22) (.k (.int .i64 1)))), none⟩])
   (.seq (.seq (.reg [⟨(some 23), (.op (.mv (.t 5))), none⟩, ⟨(some 24), (.op (.lenS (.t 23))), none⟩, ⟨(some 25), (.op (.mv (.k (.int .i64 0)))), none⟩])
   (.block 2 (.loop (.seq (.reg [⟨(some 26), (.op (.bin .lss (.t 25) (.t 24))), none⟩])
    (.seq (.cond (.t 26) .skip
    (.exit 2))
    (.seq (.block 3 (.seq (.reg [⟨(some 27), (.op (.iaddrS 1 (.t 23) (.t 25))), none⟩, ⟨(some 28), (.op (.load (.t 27))), none⟩, ⟨(some 9), (.op (.mv (.t 28))), none⟩])
    (.seq (.reg [⟨(some 29), (.op (.mv (.t 0))), none⟩, ⟨(some 30), (.op (.mv (.t 9))), none⟩, ⟨(some 31), (.op (.mv (.t 7))), none⟩, ⟨(some 32), (.call (.f 13) [(.t 29), (.t 30), (.t 31)]), none⟩])
    (.cond (.t 32) (.reg [⟨(some 33), (.op (.mv (.t 4))), none⟩, ⟨(some 34), (.op (.mv (.t 7))), none⟩, ⟨(some 35), (.op (.mv (.t 4))), none⟩, ⟨(some 36), (.op (.mv (.t 7))), none⟩, ⟨(some 37), (.op (.lookup false (.int .i64 0) false (.t 35) (.t 36))), none⟩, ⟨(some 38), (.op (.mv (.t 4))), none⟩, ⟨(some 39), (.op (.mv (.t 9))), none⟩, ⟨(some 40), (.op (.lookup false (.int .i64 0) false (.t 38) (.t 39))), none⟩, ⟨(some 41), (.op (.bin .add (.t 40) (.k (.int .i64 1)))), none⟩, ⟨(some 42), (.op (.max (.t 37) (.t 41))), none⟩, ⟨none, (.op (.mapupd false (.t 33) (.t 34) (.t 42))), none⟩])
    .skip))))
    (.reg [⟨(some 43), (.op (.bin .add (.t 25) (.k (.int .i64 1)))), none⟩, ⟨(some 25), (.op (.mv (.t 43))), none⟩])))))))
   (.seq (.reg [⟨(some 44), (.op (.mv (.t 5))), none⟩, ⟨(some 45), (.op (.mv (.t 7))), none⟩, ⟨(some 46), (.op (.bslice 3 [(.int .i64 0)] 1 [(0, 1, (.t 45))])), none⟩, ⟨(some 47), (.op (.append 3 1 8 (.t 44) (.t 46))), none⟩, ⟨(some 5), (.op (.mv (.t 47))), none⟩])
   (.reg [⟨(some 48), (.op (.mv (.t 3))), none⟩, ⟨(some 49), (.op (.mv (.t 4))), none⟩, ⟨(some 50), (.op (.mv (.t 7))), none⟩, ⟨(some 51), (.op (.lookup false (.int .i64 0) false (.t 49) (.t 50))), none⟩, ⟨(some 52), (.op (.max (.t 48) (.t 51))), none⟩, ⟨(some 3), (.op (.mv (.t 52))), none⟩]))))))
   (.reg [⟨(some 53), (.op (.bin .add (.t 17) (.k (.int .i64 1)))), none⟩, ⟨(some 17), (.op (.mv (.t 53))), none⟩])))))))
  (.seq (.reg [⟨(some 54), (.op (.mv (.t 3))), none⟩, ⟨(some 2), (.op (.mv (.t 54))), none⟩])
  .ret)))))))
def a19 : AF := ⟨55, [(.t 2)], .code b19, none⟩
theorem ok19 : AFOk Tryd.prog ext 19 a19 := .of Tryd.func19 (by kernel_rfl) (by kernel_rfl) (by kernel_rfl) (by kernel_rfl)
/-! 20: rowlock/trace.Busiest -/
def b20 : AC :=
  (.seq (.reg [⟨(some 2), (.op (.mv (.k (.int .i64 0)))), none⟩, ⟨(some 3), (.op (.mv (.k (.bool false)))), none⟩])
  (.seq (.reg [⟨(some 4), (.op (.alloc 62 [(.int .i64 0), (.int .i64 0), (.int .i64 0), (.int .i64 0), (.int .i64 0), (.int .i64 0), (.int .i64 0), (.int .i64 0), (.int .i64 0), (.int .i64 0), (.int .i64 0), (.int .i64 0)])), none⟩])
  (.seq (.seq (.reg [⟨(some 9), (.op (.mv (.t 0))), none⟩, ⟨(some 10), (.op (.lenS (.t 9))), none⟩, ⟨(some 11), (.op (.mv (.k (.int .i64 0)))), none⟩])
  (.block 0 (.loop (.seq (.reg [⟨(some 12), (.op (.bin .lss (.t 11) (.t 10))), none⟩])
   (.seq (.cond (.t 12) .skip
   (.exit 0))
   (.seq (.block 1 (.seq (.reg [⟨(some 13), (.op (.iaddrS 4 (.t 9) (.t 11))), none⟩, ⟨(some 14), (.op (.loadN 4 (.t 13))), none⟩, ⟨(some 6), (.op (.alloc 43 [(.int .u8 0), (.int .i64 0), (.int .i64 0), (.int .u64 0)])), none⟩, ⟨none, (.op (.store 4 (.t 6) (.t 14))), none⟩])
   (.seq (.reg [⟨(some 15), (.op (.faddr 0 (.t 6))), none⟩, ⟨(some 16), (.op (.load (.t 15))), none⟩, ⟨(some 17), (.op (.bin .eql (.t 16) (.k (.int .u8 2)))), none⟩, ⟨(some 18), (.op (.mv (.t 17))), none⟩, ⟨(some 19), (.op (.faddr 0 (.t 6))), (some (18, false))⟩, ⟨(some 20), (.op (.load (.t 19))), (some (18, false))⟩, ⟨(some 21), (.op (.bin .eql (.t 20) (.k (.int .u8 3)))), (some (18, false))⟩, ⟨(some 22), (.op (.pick (.t 18) (.k (.bool true)) (.t 21))), none⟩, ⟨(some 23), (.op (.mv (.t 22))), none⟩, ⟨(some 24), (.op (.faddr 2 (.t 6))), (some (23, true))⟩, ⟨(some 25), (.op (.load (.t 24))), (some (23, true))⟩, ⟨(some 26), (.op (.bin .geq (.t 25) (.k (.int .i64 0)))), (some (23, true))⟩, ⟨(some 27), (.op (.pick (.t 23) (.t 26) (.k (.bool false)))), none⟩, ⟨(some 28), (.op (.mv (.t 27))), none⟩, ⟨(some 29), (.op (.faddr 2 (.t 6))), (some (28, true))⟩, ⟨(some 30), (.op (.load (.t 29))), (some (28, true))⟩, ⟨(some 31), (.op (.bin .lss (.t 30) (.k (.int .i64 12)))), (some (28, true))⟩, ⟨(some 32), (.op (.pick (.t 28) (.t 31) (.k (.bool false)))), none⟩])
   (.cond (.t 32) (.reg [⟨(some 33), (.op (.faddr 2 (.t 6))), none⟩, ⟨(some 34), (.op (.load (.t 33))), none⟩, ⟨(some 35), (.op (.iaddrA 12 1 (.t 4) (.t 34))), none⟩, ⟨(some 36), (.op (.load (.t 35))), none⟩, ⟨(some 37), (.op (.bin .add (.t 36) (.k (.int .i64 1)))), none⟩, ⟨(some 38), (.op (.iaddrA 12 1 (.t 4) (.t 34))), none⟩, ⟨none, (.op (.store 1 (.t 38) (.t 37))), none⟩])
   .skip))))
   (.reg [⟨(some 39), (.op (.bin .add (.t 11) (.k (.int .i64 1)))), none⟩, ⟨(some 11), (.op (.mv (.t 39))), none⟩])))))))
  (.seq (.reg [⟨(some 7), (.op (.mv (.k (.int .i64 0)))), none⟩])
  (.seq (.seq (.reg [⟨(some 40), (.op (.mv (.k (.int .i64 0)))), none⟩])
  (.block 2 (.loop (.seq (.reg [⟨(some 41), (.op (.bin .lss (.t 40) (.k (.int .i64 12)))), none⟩])
   (.seq (.cond (.t 41) .skip
   (.exit 2))
   (.seq (.block 3 (.seq (.reg [⟨(some 42), (.op (.mv (.t 40))), none⟩, ⟨(some 8), (.op (.mv (.t 42))), none⟩])
   (.seq (.dreg (.quiet ⟨(some 43), (.op (.mv (.t 8))), none⟩ (.quiet ⟨(some 44), (.op (.iaddrA 12 1 (.t 4) (.t 43))), none⟩ (.quiet ⟨(some 45), (.op (.load (.t 44))), none⟩ (.quiet ⟨(some 46), (.op (.mv (.t 7))), none⟩ (.quiet ⟨(some 47), (.op (.iaddrA 12 1 (.t 4) (.t 46))), none⟩ (.quiet ⟨(some 48), (.op (.load (.t 47))), none⟩ (.quiet ⟨(some 49), (.op (.bin .gtr (.t 45) (.t 48))), none⟩ .nil))))))))
   (.cond (.t 49) (.reg [⟨(some 50), (.op (.mv (.t 8))), none⟩, ⟨(some 7), (.op (.mv (.t 50))), none⟩])
   .skip))))
   (.reg [⟨(some 51), (.op (.bin .add (.t 40) (.k (.int .i64 1)))), none⟩, ⟨(some 40), (.op (.mv (.t 51))), none⟩])))))))
  (.seq (.dreg (.quiet ⟨(some 52), (.op (.mv (.t 7))), none⟩ (.quiet ⟨(some 53), (.op (.mv (.t 7))), none⟩ (.quiet ⟨(some 54), (.op (.iaddrA 12 1 (.t 4) (.t 53))), none⟩ (.quiet ⟨(some 55), (.op (.load (.t 54))), none⟩ (.quiet ⟨(some 56), (.op (.bin .gtr (.t 55) (.k (.int .i64 0)))), none⟩ (.loud ⟨(some 2), (.op (.mv (.t 52))), none⟩ [⟨(some 55), (.op (.load (.t 54))), none⟩] (.loud ⟨(some 3), (.op (.mv (.t 56))), none⟩ [] .nil))))))))
  .ret))))))
def a20 : AF := ⟨57, [(.t 2), (.t 3)], .code b20, none⟩
theorem ok20 : AFOk Tryd.prog ext 20 a20 := .of Tryd.func20 (by kernel_rfl) (by kernel_rfl) (by kernel_rfl) (by kernel_rfl)
/-! 21: rowlock/rowlockref25.Busiest -/
def b21 : AC :=
  (.seq (.reg [⟨(some 2), (.op (.mv (.k (.int .i64 0)))), none⟩, ⟨(some 3), (.op (.mv (.k (.bool false)))), none⟩])
  (.seq (.reg [⟨(some 4), (.op (.mv (.k (.int .i64 0)))), none⟩, ⟨(some 5), (.op (.mv (.k (.int .i64 0)))), none⟩])
  (.seq (.seq (.reg [⟨(some 6), (.op (.mv (.k (.int .i64 0)))), none⟩])
  (.block 0 (.loop (.seq (.seq (.reg [⟨(some 9), (.op (.mv (.t 6))), none⟩, ⟨(some 10), (.op (.bin .lss (.t 9) (.k (.int .i64 12)))), none⟩])
   (.cond (.t 10) .skip
   (.exit 0)))
   (.seq (.block 1 (.seq (.reg [⟨(some 7), (.op (.mv (.k (.int .i64 0)))), none⟩])
   (.seq (.seq (.reg [⟨(some 8), (.op (.mv (.k (.int .i64 0)))), none⟩])
   (.block 2 (.loop (.seq (.seq (.reg [⟨(some 13), (.op (.mv (.t 8))), none⟩, ⟨(some 14), (.op (.mv (.t 0))), none⟩, ⟨(some 15), (.op (.lenS (.t 14))), none⟩, ⟨(some 16), (.op (.bin .lss (.t 13) (.t 15))), none⟩])
    (.cond (.t 16) .skip
    (.exit 2)))
    (.seq (.block 3 (.seq (.reg [⟨(some 19), (.op (.mv (.t 0))), none⟩, ⟨(some 20), (.op (.mv (.t 8))), none⟩, ⟨(some 21), (.op (.iaddrS 4 (.t 19) (.t 20))), none⟩, ⟨(some 22), (.op (.faddr 0 (.t 21))), none⟩, ⟨(some 23), (.op (.load (.t 22))), none⟩, ⟨(some 24), (.op (.bin .eql (.t 23) (.k (.int .u8 2)))), none⟩, ⟨(some 25), (.op (.mv (.t 24))), none⟩, ⟨(some 26), (.op (.mv (.t 0))), (some (25, false))⟩, ⟨(some 27), (.op (.mv (.t 8))), (some (25, false))⟩, ⟨(some 28), (.op (.iaddrS 4 (.t 26) (.t 27))), (some (25, false))⟩, ⟨(some 29), (.op (.faddr 0 (.t 28))), (some (25, false))⟩, ⟨(some 30), (.op (.load (.t 29))), (some (25, false))⟩, ⟨(some 31), (.op (.bin .eql (.t 30) (.k (.int .u8 3)))), (some (25, false))⟩, ⟨(some 32), (.op (.pick (.t 25) (.k (.bool true)) (.t 31))), none⟩, ⟨(some 33), (.op (.mv (.t 32))), none⟩, ⟨(some 34), (.op (.mv (.t 0))), (some (33, true))⟩, ⟨(some 35), (.op (.mv (.t 8))), (some (33, true))⟩, ⟨(some 36), (.op (.iaddrS 4 (.t 34) (.t 35))), (some (33, true))⟩, ⟨(some 37), (.op (.faddr 2 (.t 36))), (some (33, true))⟩, ⟨(some 38), (.op (.load (.t 37))), (some (33, true))⟩, ⟨(some 39), (.op (.mv (.t 6))), (some (33, true))⟩, ⟨(some 40), (.op (.bin .eql (.t 38) (.t 39))), (some (33, true))⟩, ⟨(some 41), (.op (.pick (.t 33) (.t 40) (.k (.bool false)))), none⟩])
    (.cond (.t 41) (.reg [⟨(some 42), (.op (.mv (.t 7))), none⟩, ⟨(some 43), (.op (.bin .add (.t 42) (.k (.int .i64 1)))), none⟩, ⟨(some 7), (.op (.mv (.t 43))), none⟩])
    .skip)))
    (.reg [⟨(some 17), (.op (.mv (.t 8))), none⟩, ⟨(some 18), (.op (.bin .add (.t 17) (.k (.int .i64 1)))), none⟩, ⟨(some 8), (.op (.mv (.t 18))), none⟩]))))))
   (.seq (.reg [⟨(some 44), (.op (.mv (.t 7))), none⟩, ⟨(some 45), (.op (.mv (.t 5))), none⟩, ⟨(some 46), (.op (.bin .gtr (.t 44) (.t 45))), none⟩])
   (.cond (.t 46) (.reg [⟨(some 47), (.op (.mv (.t 6))), none⟩, ⟨(some 48), (.op (.mv (.t 7))), none⟩, ⟨(some 4), (.op (.mv (.t 47))), none⟩, ⟨(some 5), (.op (.mv (.t 48))), none⟩])
   .skip)))))
   (.reg [⟨(some 11), (.op (.mv (.t 6))), none⟩, ⟨(some 12), (.op (.bin .add (.t 11) (.k (.int .i64 1)))), none⟩, ⟨(some 6), (.op (.mv (.t 12))), none⟩]))))))
  (.seq (.reg [⟨(some 49), (.op (.mv (.t 4))), none⟩, ⟨(some 50), (.op (.mv (.t 5))), none⟩, ⟨(some 51), (.op (.bin .gtr (.t 50) (.k (.int .i64 0)))), none⟩, ⟨(some 2), (.op (.mv (.t 49))), none⟩, ⟨(some 3), (.op (.mv (.t 51))), none⟩])
  .ret))))
def a21 : AF := ⟨52, [(.t 2), (.t 3)], .code b21, none⟩
theorem ok21 : AFOk Tryd.prog ext 21 a21 := .of Tryd.func21 (by kernel_rfl) (by kernel_rfl) (by kernel_rfl) (by kernel_rfl)
/-! 22: rowlock/rowlockref25.Conflicts -/
def b22 : AC :=
  (.seq (.reg [⟨(some 2), (.op (.mv (.k (.slice none 0 0)))), none⟩])
  (.seq (.reg [⟨(some 3), (.op (.mv (.k (.slice none 0 0)))), none⟩])
  (.seq (.reg [⟨(some 9), (.op (.mv (.t 0))), none⟩, ⟨(some 10), (.call (.f 35) [(.t 9)]), none⟩, ⟨(some 4), (.op (.mv (.t 10))), none⟩])
  (.seq (.seq (.reg [⟨(some 5), (.op (.mv (.k (.int .i64 0)))), none⟩])
  (.block 0 (.loop (.seq (.seq (.reg [⟨(some 11), (.op (.mv (.t 5))), none⟩, ⟨(some 12), (.op (.mv (.t 4))), none⟩, ⟨(some 13), (.op (.lenS (.t 12))), none⟩, ⟨(some 14), (.op (.bin .lss (.t 11) (.t 13))), none⟩])
   (.cond (.t 14) .skip
   (.exit 0)))
   (.seq (.block 1 (.seq (.reg [⟨(some 17), (.op (.mv (.t 5))), none⟩, ⟨(some 18), (.op (.bin .add (.t 17) (.k (.int .i64 1)))), none⟩, ⟨(some 6), (.op (.mv (.t 18))), none⟩])
   (.block 2 (.loop (.seq (.seq (.reg [⟨(some 19), (.op (.mv (.t 6))), none⟩, ⟨(some 20), (.op (.mv (.t 4))), none⟩, ⟨(some 21), (.op (.lenS (.t 20))), none⟩, ⟨(some 22), (.op (.bin .lss (.t 19) (.t 21))), none⟩])
    (.cond (.t 22) .skip
    (.exit 2)))
    (.seq (.block 3 (.seq (.dreg (.quiet ⟨(some 25), (.op (.mv (.t 4))), none⟩ (.quiet ⟨(some 26), (.op (.mv (.t 5))), none⟩ (.quiet ⟨(some 27), (.op (.iaddrS 1 (.t 25) (.t 26))), none⟩ (.quiet ⟨(some 28), (.op (.load (.t 27))), none⟩ (.quiet ⟨(some 29), (.op (.mv (.t 4))), none⟩ (.quiet ⟨(some 30), (.op (.mv (.t 6))), none⟩ (.quiet ⟨(some 31), (.op (.iaddrS 1 (.t 29) (.t 30))), none⟩ (.quiet ⟨(some 32), (.op (.load (.t 31))), none⟩ (.loud ⟨(some 7), (.op (.mv (.t 28))), none⟩ [⟨(some 32), (.op (.load (.t 31))), none⟩] (.loud ⟨(some 8), (.op (.mv (.t 32))), none⟩ [] .nil)))))))))))
    (.seq (.reg [⟨(some 33), (.op (.mv (.t 0))), none⟩, ⟨(some 34), (.op (.mv (.t 7))), none⟩, ⟨(some 35), (.op (.mv (.t 8))), none⟩, ⟨(some 36), (.call (.f 36) [(.t 33), (.t 34), (.t 35)]), none⟩, ⟨(some 37), (.op (.un .not (.t 36))), none⟩, ⟨(some 38), (.op (.mv (.t 37))), none⟩, ⟨(some 39), (.op (.mv (.t 0))), (some (38, true))⟩, ⟨(some 40), (.op (.mv (.t 8))), (some (38, true))⟩, ⟨(some 41), (.op (.mv (.t 7))), (some (38, true))⟩, ⟨(some 42), (.call (.f 36) [(.t 39), (.t 40), (.t 41)]), (some (38, true))⟩, ⟨(some 43), (.op (.un .not (.t 42))), (some (38, true))⟩, ⟨(some 44), (.op (.pick (.t 38) (.t 43) (.k (.bool false)))), none⟩, ⟨(some 45), (.op (.mv (.t 44))), none⟩, ⟨(some 46), (.op (.mv (.t 0))), (some (45, true))⟩, ⟨(some 47), (.op (.mv (.t 7))), (some (45, true))⟩, ⟨(some 48), (.op (.mv (.t 8))), (some (45, true))⟩, ⟨(some 49), (.call (.f 37) [(.t 46), (.t 47), (.t 48)]), (some (45, true))⟩, ⟨(some 50), (.op (.pick (.t 45) (.t 49) (.k (.bool false)))), none⟩])
    (.cond (.t 50) (.reg [⟨(some 51), (.op (.mv (.t 3))), none⟩, ⟨(some 52), (.op (.mv (.t 7))), none⟩, ⟨(some 53), (.op (.mv (.t 8))), none⟩, ⟨(some 54), (.op (.build [(.int .i64 0), (.int .i64 0)] [(0, 1, (.t 52)), (1, 1, (.t 53))])), none⟩, ⟨(some 55), (.op (.bslice 49 [(.int .i64 0), (.int .i64 0)] 1 [(0, 2, (.t 54))])), none⟩, ⟨(some 56), (.op (.append 49 2 16 (.t 51) (.t 55))), none⟩, ⟨(some 3), (.op (.mv (.t 56))), none⟩])
    .skip))))
    (.reg [⟨(some 23), (.op (.mv (.t 6))), none⟩, ⟨(some 24), (.op (.bin .add (.t 23) (.k (.int .i64 1)))), none⟩, ⟨(some 6), (.op (.mv (.t 24))), none⟩])))))))
   (.reg [⟨(some 15), (.op (.mv (.t 5))), none⟩, ⟨(some 16), (.op (.bin .add (.t 15) (.k (.int .i64 1)))), none⟩, ⟨(some 5), (.op (.mv (.t 16))), none⟩]))))))
  (.seq (.reg [⟨(some 57), (.op (.mv (.t 3))), none⟩, ⟨(some 2), (.op (.mv (.t 57))), none⟩])
  .ret)))))
def a22 : AF := ⟨58, [(.t 2)], .code b22, none⟩
theorem ok22 : AFOk Tryd.prog ext 22 a22 := .of Tryd.func22 (by kernel_rfl) (by kernel_rfl) (by kernel_rfl) (by kernel_rfl)
/-! 23: rowlock/rowlockref25.CountsOf -/
def b23 : AC :=
  (.seq (.reg [⟨(some 2), (.op (.alloc 29 [(.int .i64 0), (.int .i64 0), (.int .i64 0), (.int .i64 0), (.int .i64 0), (.int .i64 0)])), none⟩])
  (.seq (.reg [⟨(some 5), (.op (.mv (.t 0))), none⟩, ⟨(some 6), (.call (.f 35) [(.t 5)]), none⟩, ⟨(some 7), (.op (.lenS (.t 6))), none⟩, ⟨(some 8), (.op (.mv (.t 0))), none⟩, ⟨(some 9), (.call (.f 38) [(.t 8), (.k (.int .u8 3))]), none⟩, ⟨(some 10), (.op (.lenS (.t 9))), none⟩, ⟨(some 11), (.op (.mv (.t 0))), none⟩, ⟨(some 12), (.call (.f 38) [(.t 11), (.k (.int .u8 4))]), none⟩, ⟨(some 13), (.op (.lenS (.t 12))), none⟩, ⟨(some 14), (.op (.build [(.int .i64 0), (.int .i64 0), (.int .i64 0), (.int .i64 0), (.int .i64 0), (.int .i64 0)] [(0, 1, (.t 7)), (1, 1, (.t 10)), (2, 1, (.t 13))])), none⟩, ⟨(some 3), (.op (.alloc 29 [(.int .i64 0), (.int .i64 0), (.int .i64 0), (.int .i64 0), (.int .i64 0), (.int .i64 0)])), none⟩, ⟨none, (.op (.store 6 (.t 3) (.t 14))), none⟩])
  (.seq (.reg [⟨(some 15), (.op (.faddr 0 (.t 3))), none⟩, ⟨(some 16), (.op (.load (.t 15))), none⟩, ⟨(some 17), (.op (.faddr 1 (.t 3))), none⟩, ⟨(some 18), (.op (.load (.t 17))), none⟩, ⟨(some 19), (.op (.bin .sub (.t 16) (.t 18))), none⟩, ⟨(some 20), (.op (.faddr 2 (.t 3))), none⟩, ⟨(some 21), (.op (.load (.t 20))), none⟩, ⟨(some 22), (.op (.bin .sub (.t 19) (.t 21))), none⟩, ⟨(some 23), (.op (.faddr 3 (.t 3))), none⟩, ⟨none, (.op (.store 1 (.t 23) (.t 22))), none⟩])
  (.seq (.seq (.reg [⟨(some 4), (.op (.mv (.k (.int .i64 0)))), none⟩])
  (.block 0 (.loop (.seq (.seq (.reg [⟨(some 24), (.op (.mv (.t 4))), none⟩, ⟨(some 25), (.op (.mv (.t 0))), none⟩, ⟨(some 26), (.op (.lenS (.t 25))), none⟩, ⟨(some 27), (.op (.bin .lss (.t 24) (.t 26))), none⟩])
   (.cond (.t 27) .skip
   (.exit 0)))
   (.seq (.block 1 (.seq (.seq (.reg [⟨(some 30), (.op (.mv (.t 0))), none⟩, ⟨(some 31), (.op (.mv (.t 4))), none⟩, ⟨(some 32), (.op (.iaddrS 4 (.t 30) (.t 31))), none⟩, ⟨(some 33), (.op (.faddr 0 (.t 32))), none⟩, ⟨(some 34), (.op (.load (.t 33))), none⟩, ⟨(some 35), (.op (.bin .eql (.t 34) (.k (.int .u8 2)))), none⟩])
   (.cond (.t 35) (.reg [⟨(some 36), (.op (.faddr 4 (.t 3))), none⟩, ⟨(some 37), (.op (.load (.t 36))), none⟩, ⟨(some 38), (.op (.bin .add (.t 37) (.k (.int .i64 1)))), none⟩, ⟨(some 39), (.op (.faddr 4 (.t 3))), none⟩, ⟨none, (.op (.store 1 (.t 39) (.t 38))), none⟩])
   .skip))
   (.seq (.reg [⟨(some 40), (.op (.mv (.t 0))), none⟩, ⟨(some 41), (.op (.mv (.t 4))), none⟩, ⟨(some 42), (.op (.iaddrS 4 (.t 40) (.t 41))), none⟩, ⟨(some 43), (.op (.faddr 0 (.t 42))), none⟩, ⟨(some 44), (.op (.load (.t 43))), none⟩, ⟨(some 45), (.op (.bin .eql (.t 44) (.k (.int .u8 3)))), none⟩])
   (.cond (.t 45) (.reg [⟨(some 46), (.op (.faddr 5 (.t 3))), none⟩, ⟨(some 47), (.op (.load (.t 46))), none⟩, ⟨(some 48), (.op (.bin .add (.t 47) (.k (.int .i64 1)))), none⟩, ⟨(some 49), (.op (.faddr 5 (.t 3))), none⟩, ⟨none, (.op (.store 1 (.t 49) (.t 48))), none⟩])
   .skip))))
   (.reg [⟨(some 28), (.op (.mv (.t 4))), none⟩, ⟨(some 29), (.op (.bin .add (.t 28) (.k (.int .i64 1)))), none⟩, ⟨(some 4), (.op (.mv (.t 29))), none⟩]))))))
  (.seq (.reg [⟨(some 50), (.op (.loadN 6 (.t 3))), none⟩, ⟨none, (.op (.store 6 (.t 2) (.t 50))), none⟩])
  .ret)))))
def a23 : AF := ⟨51, [(.c 2 true 6)], .code b23, none⟩
theorem ok23 : AFOk Tryd.prog ext 23 a23 := .of Tryd.func23 (by kernel_rfl) (by kernel_rfl) (by kernel_rfl) (by kernel_rfl)
/-! 24: rowlock/rowlockref25.Chains -/
def b24 : AC :=
  (.seq (.reg [⟨(some 2), (.op (.mv (.k (.int .i64 0)))), none⟩])
  (.seq (.seq (.reg [⟨(some 9), (.op (.mv (.t 0))), none⟩, ⟨(some 10), (.call (.f 30) [(.t 9)]), none⟩, ⟨(some 11), (.op (.un .not (.t 10))), none⟩])
  (.cond (.t 11) (.seq (.reg [⟨(some 2), (.op (.mv (.k (.int .i64 0)))), none⟩])
  .ret)
  .skip))
  (.seq (.reg [⟨(some 12), (.op (.mv (.t 0))), none⟩, ⟨(some 13), (.call (.f 35) [(.t 12)]), none⟩, ⟨(some 3), (.op (.mv (.t 13))), none⟩])
  (.seq (.reg [⟨(some 4), (.op (.mv (.k (.int .i64 0)))), none⟩])
  (.seq (.reg [⟨(some 5), (.op (.mv (.k (.slice none 0 0)))), none⟩])
  (.seq (.seq (.reg [⟨(some 6), (.op (.mv (.k (.int .i64 0)))), none⟩])
  (.block 0 (.loop (.seq (.seq (.reg [⟨(some 14), (.op (.mv (.t 6))), none⟩, ⟨(some 15), (.op (.mv (.t 3))), none⟩, ⟨(some 16), (.op (.lenS (.t 15))), none⟩, ⟨(some 17), (.op (.bin .lss (.t 14) (.t 16))), none⟩])
   (.cond (.t 17) .skip
   (.exit 0)))
   (.seq (.block 1 (.seq (.reg [⟨(some 7), (.op (.mv (.k (.int .i64 1)))), none⟩])
   (.seq (.seq (.reg [⟨(some 8), (.op (.mv (.k (.int .i64 0)))), none⟩])
   (.block 2 (.loop (.seq (.seq (.reg [⟨(some 20), (.op (.mv (.t 8))), none⟩, ⟨(some 21), (.op (.mv (.t 6))), none⟩, ⟨(some 22), (.op (.bin .lss (.t 20) (.t 21))), none⟩])
    (.cond (.t 22) .skip
    (.exit 2)))
    (.seq (.block 3 (.seq (.dreg (.quiet ⟨(some 25), (.op (.mv (.t 0))), none⟩ (.quiet ⟨(some 26), (.op (.mv (.t 3))), none⟩ (.quiet ⟨(some 27), (.op (.mv (.t 8))), none⟩ (.quiet ⟨(some 28), (.op (.iaddrS 1 (.t 26) (.t 27))), none⟩ (.quiet ⟨(some 29), (.op (.load (.t 28))), none⟩ (.quiet ⟨(some 30), (.op (.mv (.t 3))), none⟩ (.quiet ⟨(some 31), (.op (.mv (.t 6))), none⟩ (.quiet ⟨(some 32), (.op (.iaddrS 1 (.t 30) (.t 31))), none⟩ (.quiet ⟨(some 33), (.op (.load (.t 32))), none⟩ (.loud ⟨(some 34), (.call (.f 36) [(.t 25), (.t 29), (.t 33)]), none⟩ [] (.quiet ⟨(some 35), (.op (.mv (.t 34))), none⟩ (.quiet ⟨(some 36), (.op (.mv (.t 5))), (some (35, true))⟩ (.quiet ⟨(some 37), (.op (.mv (.t 8))), (some (35, true))⟩ (.quiet ⟨(some 38), (.op (.iaddrS 1 (.t 36) (.t 37))), (some (35, true))⟩ (.quiet ⟨(some 39), (.op (.load (.t 38))), (some (35, true))⟩ (.quiet ⟨(some 40), (.op (.bin .add (.t 39) (.k (.int .i64 1)))), (some (35, true))⟩ (.quiet ⟨(some 41), (.op (.mv (.t 7))), (some (35, true))⟩ (.quiet ⟨(some 42), (.op (.bin .gtr (.t 40) (.t 41))), (some (35, true))⟩ (.quiet ⟨(some 43), (.op (.pick (.t 35) (.t 42) (.k (.bool false)))), none⟩ .nil))))))))))))))))))))
    (.cond (.t 43) (.reg [⟨(some 44), (.op (.mv (.t 5))), none⟩, ⟨(some 45), (.op (.mv (.t 8))), none⟩, ⟨(some 46), (.op (.iaddrS 1 (.t 44) (.t 45))), none⟩, ⟨(some 47), (.op (.load (.t 46))), none⟩, ⟨(some 48), (.op (.bin .add (.t 47) (.k (.int .i64 1)))), none⟩, ⟨(some 7), (.op (.mv (.t 48))), none⟩])
    .skip)))
    (.reg [⟨(some 23), (.op (.mv (.t 8))), none⟩, ⟨(some 24), (.op (.bin .add (.t 23) (.k (.int .i64 1)))), none⟩, ⟨(some 8), (.op (.mv (.t 24))), none⟩]))))))
   (.seq (.reg [⟨(some 49), (.op (.mv (.t 5))), none⟩, ⟨(some 50), (.op (.mv (.t 7))), none⟩, ⟨(some 51), (.op (.bslice 3 [(.int .i64 0)] 1 [(0, 1, (.t 50))])), none⟩, ⟨(some 52), (.op (.append 3 1 8 (.t 49) (.t 51))), none⟩, ⟨(some 5), (.op (.mv (.t 52))), none⟩])
   (.seq (.reg [⟨(some 53), (.op (.mv (.t 7))), none⟩, ⟨(some 54), (.op (.mv (.t 4))), none⟩, ⟨(some 55), (.op (.bin .gtr (.t 53) (.t 54))), none⟩])
   (.cond (.t 55) (.reg [⟨(some 56), (.op (.mv (.t 7))), none⟩, ⟨(some 4), (.op (.mv (.t 56))), none⟩])
   .skip))))))
   (.reg [⟨(some 18), (.op (.mv (.t 6))), none⟩, ⟨(some 19), (.op (.bin .add (.t 18) (.k (.int .i64 1)))), none⟩, ⟨(some 6), (.op (.mv (.t 19))), none⟩]))))))
  (.seq (.reg [⟨(some 57), (.op (.mv (.t 4))), none⟩, ⟨(some 2), (.op (.mv (.t 57))), none⟩])
  .ret)))))))
def a24 : AF := ⟨58, [(.t 2)], .code b24, none⟩
theorem ok24 : AFOk Tryd.prog ext 24 a24 := .of Tryd.func24 (by kernel_rfl) (by kernel_rfl) (by kernel_rfl) (by kernel_rfl)
/-! 26: rowlock/trace.Print -/
def b26 : AC :=
  (.seq (.reg [⟨(some 2), (.op (.mv (.k (.string ⟨#[]⟩)))), none⟩, ⟨(some 3), (.op (.mv (.k (.int .i64 0)))), none⟩])
  (.seq (.seq (.reg [⟨(some 7), (.op (.mv (.t 0))), none⟩, ⟨(some 8), (.call (.f 14) [(.t 7)]), none⟩, ⟨(some 9), (.op (.un .not (.t 8))), none⟩])
  (.cond (.t 9) (.seq (.reg [⟨(some 2), (.op (.mv (.k (.string ⟨#[]⟩)))), none⟩, ⟨(some 3), (.op (.mv (.k (.int .i64 3)))), none⟩])
  .ret)
  .skip))
  (.seq (.reg [⟨(some 4), (.op (.alloc 67 [(.pointer none), (.slice none 0 0)])), none⟩])
  (.seq (.seq (.reg [⟨(some 10), (.op (.mv (.t 0))), none⟩, ⟨(some 11), (.op (.lenS (.t 10))), none⟩, ⟨(some 12), (.op (.mv (.k (.int .i64 0)))), none⟩])
  (.block 0 (.loop (.seq (.reg [⟨(some 13), (.op (.bin .lss (.t 12) (.t 11))), none⟩])
   (.seq (.cond (.t 13) .skip
   (.exit 0))
   (.seq (.block 1 (.seq (.reg [⟨(some 14), (.op (.iaddrS 4 (.t 10) (.t 12))), none⟩, ⟨(some 15), (.op (.loadN 4 (.t 14))), none⟩, ⟨(some 6), (.op (.alloc 43 [(.int .u8 0), (.int .i64 0), (.int .i64 0), (.int .u64 0)])), none⟩, ⟨none, (.op (.store 4 (.t 6) (.t 15))), none⟩])
   (.seq (.reg [⟨(some 16), (.op (.loadN 4 (.t 6))), none⟩, ⟨(some 17), (.call (.f 40) [(.t 16)]), none⟩, ⟨(some 18), (.call (.f 39) [(.t 4), (.t 17)]), none⟩])
   (.reg [⟨(some 19), (.call (.f 41) [(.t 4), (.k (.int .u8 10))]), none⟩]))))
   (.reg [⟨(some 20), (.op (.bin .add (.t 12) (.k (.int .i64 1)))), none⟩, ⟨(some 12), (.op (.mv (.t 20))), none⟩])))))))
  (.seq (.reg [⟨(some 21), (.call (.f 42) [(.t 4)]), none⟩, ⟨(some 2), (.op (.mv (.t 21))), none⟩, ⟨(some 3), (.op (.mv (.k (.int .i64 0)))), none⟩])
  .ret)))))
def a26 : AF := ⟨22, [(.t 2), (.t 3)], .code b26, none⟩
theorem ok26 : AFOk Tryd.prog ext 26 a26 := .of Tryd.func26 (by kernel_rfl) (by kernel_rfl) (by kernel_rfl) (by kernel_rfl)
/-! 27: slices.Contains[[]int,int] -/
def b27 : AC :=
  (.seq (.reg [⟨(some 4), (.op (.mv (.k (.bool false)))), none⟩])
  (.seq (.reg [⟨(some 5), (.op (.mv (.t 0))), none⟩, ⟨(some 6), (.op (.mv (.t 1))), none⟩, ⟨(some 7), (.call (.f 43) [(.t 5), (.t 6)]), none⟩, ⟨(some 8), (.op (.bin .geq (.t 7) (.k (.int .i64 0)))), none⟩, ⟨(some 4), (.op (.mv (.t 8))), none⟩])
  .ret))
def a27 : AF := ⟨9, [(.t 4)], .code b27, none⟩
theorem ok27 : AFOk Tryd.prog ext 27 a27 := .of Tryd.func27 (by kernel_rfl) (by kernel_rfl) (by kernel_rfl) (by kernel_rfl)
/-! 28: rowlock/history.Right$1 -/
def b28 : AC :=
  (.seq (.reg [⟨(some 1), (.op (.mv (.t 4))), none⟩])
  (.seq (.reg [⟨(some 5), (.op (.mv (.t 1))), none⟩, ⟨(some 6), (.op (.ifnil true (.t 5))), none⟩])
  (.cond (.t 6) (.seq (.seq (.reg [⟨(some 8), (.op (.mv (.t 1))), none⟩, ⟨(some 9), (.op (.tassert 54 (.agg #[]) (.t 8))), none⟩, ⟨(some 7), (.op (.mv (.t 9))), none⟩, ⟨(some 10), (.op (.extract (.t 7) 0)), none⟩, ⟨(some 11), (.op (.extract (.t 7) 1)), none⟩, ⟨(some 2), (.op (.alloc 54 [])), none⟩, ⟨none, (.op (.store 0 (.t 2) (.t 10))), none⟩, ⟨(some 3), (.op (.mv (.t 11))), none⟩])
  (.seq (.reg [⟨(some 12), (.op (.mv (.t 3))), none⟩, ⟨(some 13), (.op (.un .not (.t 12))), none⟩])
  (.cond (.t 13) (.reg [⟨(some 14), (.op (.mv (.t 1))), none⟩, ⟨none, (.panic (.t 14)), none⟩])
  .skip)))
  (.reg [⟨none, (.op (.store 1 (.t 0) (.k (.bool false)))), none⟩]))
  .skip)))
def a28 : AF := ⟨15, [], .code b28, some 4⟩
theorem ok28 : AFOk Tryd.prog ext 28 a28 := .of Tryd.func28 (by kernel_rfl) (by kernel_rfl) (by kernel_rfl) (by kernel_rfl)
/-! 29: rowlock/history.take -/
def b29 : AC :=
  (.seq (.reg [⟨(some 3), (.op (.box 43 (.t 1))), none⟩])
  (.seq (.reg [⟨(some 5), (.op (.faddr 1 (.t 3))), none⟩, ⟨(some 6), (.op (.load (.t 5))), none⟩, ⟨(some 7), (.op (.bin .geq (.t 6) (.k (.int .i64 0)))), none⟩, ⟨(some 8), (.op (.mv (.t 7))), none⟩, ⟨(some 9), (.op (.faddr 1 (.t 3))), (some (8, true))⟩, ⟨(some 10), (.op (.load (.t 9))), (some (8, true))⟩, ⟨(some 11), (.op (.bin .lss (.t 10) (.k (.int .i64 64)))), (some (8, true))⟩, ⟨(some 12), (.op (.pick (.t 8) (.t 11) (.k (.bool false)))), none⟩, ⟨(some 13), (.call (.f 44) [(.t 12)]), none⟩])
  (.seq (.reg [⟨(some 14), (.op (.mv (.t 0))), none⟩, ⟨(some 15), (.op (.faddr 1 (.t 3))), none⟩, ⟨(some 16), (.op (.load (.t 15))), none⟩, ⟨(some 17), (.op (.lookup false (.pointer none) false (.t 14) (.t 16))), none⟩, ⟨(some 4), (.op (.mv (.t 17))), none⟩])
  (.seq (.seq (.reg [⟨(some 18), (.op (.faddr 0 (.t 3))), none⟩, ⟨(some 19), (.op (.load (.t 18))), none⟩, ⟨(some 20), (.op (.bin .eql (.t 19) (.k (.int .u8 1)))), none⟩])
  (.cond (.t 20) (.seq (.reg [⟨(some 21), (.op (.mv (.t 4))), none⟩, ⟨(some 22), (.op (.eq false .ptr (.t 21) (.k (.pointer none)))), none⟩, ⟨(some 23), (.op (.mv (.t 22))), none⟩, ⟨(some 24), (.op (.loadN 4 (.t 3))), (some (23, true))⟩, ⟨(some 25), (.call (.f 45) [(.t 24)]), (some (23, true))⟩, ⟨(some 26), (.op (.pick (.t 23) (.t 25) (.k (.bool false)))), none⟩, ⟨(some 27), (.call (.f 44) [(.t 26)]), none⟩])
  (.seq (.dreg (.quiet ⟨(some 28), (.op (.mv (.t 0))), none⟩ (.quiet ⟨(some 29), (.op (.faddr 1 (.t 3))), none⟩ (.quiet ⟨(some 30), (.op (.load (.t 29))), none⟩ (.loud ⟨(some 31), (.call (.f 46) []), none⟩ [⟨(some 30), (.op (.load (.t 29))), none⟩] (.quiet ⟨(some 32), (.op (.build [(.pointer none), (.bool false), (.bool false)] [(0, 1, (.t 31))])), none⟩ (.loud ⟨(some 33), (.op (.box 82 (.t 32))), none⟩ [⟨(some 30), (.op (.load (.t 29))), none⟩] (.loud ⟨none, (.op (.mapupd false (.t 28) (.t 30) (.t 33))), none⟩ [] .nil))))))))
  .ret))
  .skip))
  (.seq (.reg [⟨(some 34), (.op (.mv (.t 4))), none⟩, ⟨(some 35), (.op (.eq true .ptr (.t 34) (.k (.pointer none)))), none⟩, ⟨(some 36), (.op (.mv (.t 35))), none⟩, ⟨(some 37), (.op (.mv (.t 4))), (some (36, true))⟩, ⟨(some 38), (.op (.nilchk (.t 37))), (some (36, true))⟩, ⟨(some 39), (.op (.faddr 2 (.t 38))), (some (36, true))⟩, ⟨(some 40), (.op (.load (.t 39))), (some (36, true))⟩, ⟨(some 41), (.op (.un .not (.t 40))), (some (36, true))⟩, ⟨(some 42), (.op (.pick (.t 36) (.t 41) (.k (.bool false)))), none⟩, ⟨(some 43), (.call (.f 44) [(.t 42)]), none⟩])
  (.seq (.seq (.reg [⟨(some 44), (.op (.faddr 0 (.t 3))), none⟩, ⟨(some 45), (.op (.load (.t 44))), none⟩])
  (.block 0 (.seq (.reg [⟨(some 47), (.op (.bin .eql (.t 45) (.k (.int .u8 8)))), none⟩, ⟨(some 46), (.op (.mv (.t 47))), none⟩])
  (.cond (.t 46) (.seq (.reg [⟨(some 48), (.op (.mv (.t 4))), none⟩, ⟨(some 49), (.op (.nilchk (.t 48))), none⟩, ⟨(some 50), (.op (.faddr 1 (.t 49))), none⟩, ⟨(some 51), (.op (.load (.t 50))), none⟩, ⟨(some 52), (.op (.mv (.t 51))), none⟩, ⟨(some 53), (.op (.loadN 4 (.t 3))), (some (52, true))⟩, ⟨(some 54), (.call (.f 45) [(.t 53)]), (some (52, true))⟩, ⟨(some 55), (.op (.pick (.t 52) (.t 54) (.k (.bool false)))), none⟩, ⟨(some 56), (.call (.f 44) [(.t 55)]), none⟩])
  (.seq (.reg [⟨(some 57), (.op (.mv (.t 4))), none⟩, ⟨(some 58), (.op (.nilchk (.t 57))), none⟩, ⟨(some 59), (.op (.faddr 2 (.t 58))), none⟩, ⟨none, (.op (.store 1 (.t 59) (.k (.bool true)))), none⟩])
  .ret))
  (.seq (.reg [⟨(some 61), (.op (.bin .eql (.t 45) (.k (.int .u8 9)))), none⟩, ⟨(some 60), (.op (.mv (.t 61))), none⟩])
  (.cond (.t 60) (.seq (.reg [⟨(some 62), (.op (.loadN 4 (.t 3))), none⟩, ⟨(some 63), (.call (.f 45) [(.t 62)]), none⟩, ⟨(some 64), (.call (.f 44) [(.t 63)]), none⟩])
  (.seq (.reg [⟨(some 65), (.op (.mv (.t 4))), none⟩, ⟨(some 66), (.op (.nilchk (.t 65))), none⟩, ⟨(some 67), (.op (.faddr 2 (.t 66))), none⟩, ⟨none, (.op (.store 1 (.t 67) (.k (.bool true)))), none⟩])
  .ret))
  .skip))))))
  (.seq (.reg [⟨(some 68), (.op (.mv (.t 4))), none⟩, ⟨(some 69), (.op (.nilchk (.t 68))), none⟩, ⟨(some 70), (.op (.faddr 1 (.t 69))), none⟩, ⟨(some 71), (.op (.load (.t 70))), none⟩, ⟨(some 72), (.op (.un .not (.t 71))), none⟩, ⟨(some 73), (.call (.f 44) [(.t 72)]), none⟩])
  (.seq (.reg [⟨(some 74), (.op (.faddr 0 (.t 3))), none⟩, ⟨(some 75), (.op (.load (.t 74))), none⟩])
  (.block 1 (.seq (.reg [⟨(some 78), (.op (.bin .eql (.t 75) (.k (.int .u8 2)))), none⟩, ⟨(some 77), (.op (.mv (.t 78))), none⟩])
  (.cond (.t 77) (.reg [⟨(some 79), (.op (.faddr 2 (.t 3))), none⟩, ⟨(some 80), (.op (.load (.t 79))), none⟩, ⟨(some 81), (.op (.bin .geq (.t 80) (.k (.int .i64 0)))), none⟩, ⟨(some 82), (.op (.mv (.t 81))), none⟩, ⟨(some 83), (.op (.faddr 2 (.t 3))), (some (82, true))⟩, ⟨(some 84), (.op (.load (.t 83))), (some (82, true))⟩, ⟨(some 85), (.op (.bin .lss (.t 84) (.k (.int .i64 12)))), (some (82, true))⟩, ⟨(some 86), (.op (.pick (.t 82) (.t 85) (.k (.bool false)))), none⟩, ⟨(some 87), (.op (.mv (.t 86))), none⟩, ⟨(some 88), (.op (.faddr 3 (.t 3))), (some (87, true))⟩, ⟨(some 89), (.op (.load (.t 88))), (some (87, true))⟩, ⟨(some 90), (.call (.f 47) [(.t 89)]), (some (87, true))⟩, ⟨(some 91), (.op (.pick (.t 87) (.t 90) (.k (.bool false)))), none⟩, ⟨(some 92), (.call (.f 44) [(.t 91)]), none⟩])
  (.seq (.reg [⟨(some 94), (.op (.bin .eql (.t 75) (.k (.int .u8 3)))), none⟩, ⟨(some 93), (.op (.mv (.t 94))), none⟩])
  (.cond (.t 93) (.reg [⟨(some 95), (.op (.mv (.t 4))), none⟩, ⟨(some 96), (.op (.loadN 4 (.t 3))), none⟩, ⟨(some 97), (.call (.f 48) [(.t 95), (.t 96)]), none⟩, ⟨(some 98), (.op (.bin .eql (.t 97) (.k (.int .i64 0)))), none⟩, ⟨(some 99), (.call (.f 44) [(.t 98)]), none⟩])
  (.seq (.seq (.reg [⟨(some 101), (.op (.bin .eql (.t 75) (.k (.int .u8 4)))), none⟩, ⟨(some 100), (.op (.mv (.t 101))), none⟩])
  (.cond (.t 100) .skip
  (.seq (.reg [⟨(some 102), (.op (.bin .eql (.t 75) (.k (.int .u8 5)))), none⟩, ⟨(some 100), (.op (.mv (.t 102))), none⟩])
  (.cond (.t 100) .skip
  (.reg [⟨(some 103), (.op (.bin .eql (.t 75) (.k (.int .u8 6)))), none⟩, ⟨(some 100), (.op (.mv (.t 103))), none⟩])))))
  (.cond (.t 100) (.reg [⟨(some 104), (.op (.loadN 4 (.t 3))), none⟩, ⟨(some 105), (.call (.f 45) [(.t 104)]), none⟩, ⟨(some 106), (.op (.mv (.t 105))), none⟩, ⟨(some 107), (.op (.mv (.t 4))), (some (106, true))⟩, ⟨(some 108), (.op (.loadN 4 (.t 3))), (some (106, true))⟩, ⟨(some 109), (.call (.f 48) [(.t 107), (.t 108)]), (some (106, true))⟩, ⟨(some 110), (.op (.bin .eql (.t 109) (.k (.int .i64 0)))), (some (106, true))⟩, ⟨(some 111), (.op (.pick (.t 106) (.t 110) (.k (.bool false)))), none⟩, ⟨(some 112), (.call (.f 44) [(.t 111)]), none⟩])
  (.seq (.reg [⟨(some 114), (.op (.bin .eql (.t 75) (.k (.int .u8 7)))), none⟩, ⟨(some 113), (.op (.mv (.t 114))), none⟩])
  (.cond (.t 113) (.seq (.reg [⟨(some 115), (.op (.loadN 4 (.t 3))), none⟩, ⟨(some 116), (.call (.f 45) [(.t 115)]), none⟩, ⟨(some 117), (.op (.mv (.t 116))), none⟩, ⟨(some 118), (.op (.mv (.t 4))), (some (117, true))⟩, ⟨(some 119), (.op (.nilchk (.t 118))), (some (117, true))⟩, ⟨(some 120), (.op (.faddr 0 (.t 119))), (some (117, true))⟩, ⟨(some 121), (.op (.load (.t 120))), (some (117, true))⟩, ⟨(some 122), (.call (.f 49) [(.t 121)]), (some (117, true))⟩, ⟨(some 123), (.op (.bin .eql (.t 122) (.k (.int .i64 0)))), (some (117, true))⟩, ⟨(some 124), (.op (.pick (.t 117) (.t 123) (.k (.bool false)))), none⟩, ⟨(some 125), (.call (.f 44) [(.t 124)]), none⟩])
  (.reg [⟨(some 126), (.op (.mv (.t 4))), none⟩, ⟨(some 127), (.op (.nilchk (.t 126))), none⟩, ⟨(some 128), (.op (.faddr 1 (.t 127))), none⟩, ⟨none, (.op (.store 1 (.t 128) (.k (.bool true)))), none⟩]))
  (.reg [⟨(some 76), (.call (.f 44) [(.k (.bool false))]), none⟩]))))))))))))))))))
def a29 : AF := ⟨129, [], .code b29, none⟩
theorem ok29 : AFOk Tryd.prog ext 29 a29 := .of Tryd.func29 (by kernel_rfl) (by kernel_rfl) (by kernel_rfl) (by kernel_rfl)
/-! 30: rowlock/rowlockref08.Right -/
def b30 : AC :=
  (.seq (.reg [⟨(some 2), (.op (.mv (.k (.bool false)))), none⟩])
  (.seq (.seq (.reg [⟨(some 4), (.op (.mv (.t 0))), none⟩, ⟨(some 5), (.op (.lenS (.t 4))), none⟩, ⟨(some 6), (.op (.bin .gtr (.t 5) (.k (.int .i64 400)))), none⟩])
  (.cond (.t 6) (.seq (.reg [⟨(some 2), (.op (.mv (.k (.bool false)))), none⟩])
  .ret)
  .skip))
  (.seq (.seq (.reg [⟨(some 3), (.op (.mv (.k (.int .i64 0)))), none⟩])
  (.block 0 (.loop (.seq (.seq (.reg [⟨(some 7), (.op (.mv (.t 3))), none⟩, ⟨(some 8), (.op (.mv (.t 0))), none⟩, ⟨(some 9), (.op (.lenS (.t 8))), none⟩, ⟨(some 10), (.op (.bin .lss (.t 7) (.t 9))), none⟩])
   (.cond (.t 10) .skip
   (.exit 0)))
   (.seq (.block 1 (.seq (.reg [⟨(some 13), (.op (.mv (.t 0))), none⟩, ⟨(some 14), (.op (.mv (.t 3))), none⟩, ⟨(some 15), (.call (.f 50) [(.t 13), (.t 14)]), none⟩, ⟨(some 16), (.op (.un .not (.t 15))), none⟩])
   (.cond (.t 16) (.seq (.reg [⟨(some 2), (.op (.mv (.k (.bool false)))), none⟩])
   .ret)
   .skip)))
   (.reg [⟨(some 11), (.op (.mv (.t 3))), none⟩, ⟨(some 12), (.op (.bin .add (.t 11) (.k (.int .i64 1)))), none⟩, ⟨(some 3), (.op (.mv (.t 12))), none⟩]))))))
  (.seq (.reg [⟨(some 2), (.op (.mv (.k (.bool true)))), none⟩])
  .ret))))
def a30 : AF := ⟨17, [(.t 2)], .code b30, none⟩
theorem ok30 : AFOk Tryd.prog ext 30 a30 := .of Tryd.func30 (by kernel_rfl) (by kernel_rfl) (by kernel_rfl) (by kernel_rfl)
/-! 31: rowlock/rowlockref25.above -/
def b31 : AC :=
  (.seq (.reg [⟨(some 2), (.op (.mv (.k (.int .i64 0)))), none⟩])
  (.seq (.reg [⟨(some 3), (.op (.mv (.k (.int .i64 0)))), none⟩])
  (.seq (.seq (.reg [⟨(some 4), (.op (.mv (.k (.int .i64 0)))), none⟩])
  (.block 0 (.loop (.seq (.seq (.reg [⟨(some 5), (.op (.mv (.t 4))), none⟩, ⟨(some 6), (.op (.mv (.t 0))), none⟩, ⟨(some 7), (.op (.lenS (.t 6))), none⟩, ⟨(some 8), (.op (.bin .lss (.t 5) (.t 7))), none⟩])
   (.cond (.t 8) .skip
   (.exit 0)))
   (.seq (.block 1 (.seq (.reg [⟨(some 11), (.op (.mv (.t 0))), none⟩, ⟨(some 12), (.op (.mv (.t 4))), none⟩, ⟨(some 13), (.op (.iaddrS 4 (.t 11) (.t 12))), none⟩, ⟨(some 14), (.op (.faddr 1 (.t 13))), none⟩, ⟨(some 15), (.op (.load (.t 14))), none⟩, ⟨(some 16), (.op (.mv (.t 3))), none⟩, ⟨(some 17), (.op (.bin .geq (.t 15) (.t 16))), none⟩])
   (.cond (.t 17) (.reg [⟨(some 18), (.op (.mv (.t 0))), none⟩, ⟨(some 19), (.op (.mv (.t 4))), none⟩, ⟨(some 20), (.op (.iaddrS 4 (.t 18) (.t 19))), none⟩, ⟨(some 21), (.op (.faddr 1 (.t 20))), none⟩, ⟨(some 22), (.op (.load (.t 21))), none⟩, ⟨(some 23), (.op (.bin .add (.t 22) (.k (.int .i64 1)))), none⟩, ⟨(some 3), (.op (.mv (.t 23))), none⟩])
   .skip)))
   (.reg [⟨(some 9), (.op (.mv (.t 4))), none⟩, ⟨(some 10), (.op (.bin .add (.t 9) (.k (.int .i64 1)))), none⟩, ⟨(some 4), (.op (.mv (.t 10))), none⟩]))))))
  (.seq (.reg [⟨(some 24), (.op (.mv (.t 3))), none⟩, ⟨(some 2), (.op (.mv (.t 24))), none⟩])
  .ret))))
def a31 : AF := ⟨25, [(.t 2)], .code b31, none⟩
theorem ok31 : AFOk Tryd.prog ext 31 a31 := .of Tryd.func31 (by kernel_rfl) (by kernel_rfl) (by kernel_rfl) (by kernel_rfl)
/-! 32: rowlock/trace.touched -/
def b32 : AC :=
  (.seq (.reg [⟨(some 4), (.op (.mv (.k (.map none)))), none⟩])
  (.seq (.reg [⟨(some 8), (.op (.mkmap)), none⟩, ⟨(some 5), (.op (.mv (.t 8))), none⟩])
  (.seq (.seq (.reg [⟨(some 9), (.op (.mv (.t 0))), none⟩, ⟨(some 10), (.op (.mv (.t 1))), none⟩, ⟨(some 11), (.call (.f 17) [(.t 9), (.t 10)]), none⟩, ⟨(some 12), (.op (.lenS (.t 11))), none⟩, ⟨(some 13), (.op (.mv (.k (.int .i64 0)))), none⟩])
  (.block 0 (.loop (.seq (.reg [⟨(some 14), (.op (.bin .lss (.t 13) (.t 12))), none⟩])
   (.seq (.cond (.t 14) .skip
   (.exit 0))
   (.seq (.block 1 (.seq (.reg [⟨(some 15), (.op (.iaddrS 4 (.t 11) (.t 13))), none⟩, ⟨(some 16), (.op (.loadN 4 (.t 15))), none⟩, ⟨(some 7), (.op (.alloc 43 [(.int .u8 0), (.int .i64 0), (.int .i64 0), (.int .u64 0)])), none⟩, ⟨none, (.op (.store 4 (.t 7) (.t 16))), none⟩])
   (.seq (.reg [⟨(some 17), (.op (.faddr 0 (.t 7))), none⟩, ⟨(some 18), (.op (.load (.t 17))), none⟩, ⟨(some 19), (.op (.bin .eql (.t 18) (.k (.int .u8 2)))), none⟩, ⟨(some 20), (.op (.mv (.t 19))), none⟩, ⟨(some 21), (.op (.faddr 0 (.t 7))), (some (20, false))⟩, ⟨(some 22), (.op (.load (.t 21))), (some (20, false))⟩, ⟨(some 23), (.op (.bin .eql (.t 22) (.k (.int .u8 3)))), (some (20, false))⟩, ⟨(some 24), (.op (.pick (.t 20) (.k (.bool true)) (.t 23))), none⟩])
   (.cond (.t 24) (.reg [⟨(some 25), (.op (.mv (.t 5))), none⟩, ⟨(some 26), (.op (.faddr 2 (.t 7))), none⟩, ⟨(some 27), (.op (.load (.t 26))), none⟩, ⟨(some 28), (.op (.mv (.t 5))), none⟩, ⟨(some 29), (.op (.faddr 2 (.t 7))), none⟩, ⟨(some 30), (.op (.load (.t 29))), none⟩, ⟨(some 31), (.op (.lookup false (.bool false) false (.t 28) (.t 30))), none⟩, ⟨(some 32), (.op (.mv (.t 31))), none⟩, ⟨(some 33), (.op (.faddr 0 (.t 7))), (some (32, false))⟩, ⟨(some 34), (.op (.load (.t 33))), (some (32, false))⟩, ⟨(some 35), (.op (.bin .eql (.t 34) (.k (.int .u8 3)))), (some (32, false))⟩, ⟨(some 36), (.op (.pick (.t 32) (.k (.bool true)) (.t 35))), none⟩, ⟨none, (.op (.mapupd false (.t 25) (.t 27) (.t 36))), none⟩])
   .skip))))
   (.reg [⟨(some 37), (.op (.bin .add (.t 13) (.k (.int .i64 1)))), none⟩, ⟨(some 13), (.op (.mv (.t 37))), none⟩])))))))
  (.seq (.reg [⟨(some 38), (.op (.mv (.t 5))), none⟩, ⟨(some 4), (.op (.mv (.t 38))), none⟩])
  .ret))))
def a32 : AF := ⟨39, [(.t 4)], .code b32, none⟩
theorem ok32 : AFOk Tryd.prog ext 32 a32 := .of Tryd.func32 (by kernel_rfl) (by kernel_rfl) (by kernel_rfl) (by kernel_rfl)
/-! 33: rowlock/trace.meet -/
def b33 : AC :=
  (.seq (.reg [⟨(some 4), (.op (.mv (.k (.bool false)))), none⟩])
  (.seq (.seq (.reg [⟨(some 9), (.op (.mv (.t 0))), none⟩, ⟨(some 10), (.op (.mrange (.t 9))), none⟩])
  (.block 0 (.loop (.seq (.reg [⟨(some 11), (.mnext (.t 10)), none⟩, ⟨(some 12), (.op (.extract (.t 11) 0)), none⟩])
   (.seq (.cond (.t 12) .skip
   (.exit 0))
   (.block 1 (.seq (.reg [⟨(some 13), (.op (.mentry (.t 10))), none⟩, ⟨(some 14), (.op (.extract (.t 13) 0)), none⟩, ⟨(some 15), (.op (.extract (.t 13) 1)), none⟩, ⟨(some 5), (.op (.mv (.t 14))), none⟩, ⟨(some 6), (.op (.mv (.t 15))), none⟩])
   (.seq (.reg [⟨(some 17), (.op (.mv (.t 1))), none⟩, ⟨(some 18), (.op (.mv (.t 5))), none⟩, ⟨(some 19), (.op (.lookup false (.bool false) true (.t 17) (.t 18))), none⟩, ⟨(some 16), (.op (.mv (.t 19))), none⟩, ⟨(some 20), (.op (.extract (.t 16) 0)), none⟩, ⟨(some 21), (.op (.extract (.t 16) 1)), none⟩, ⟨(some 7), (.op (.mv (.t 20))), none⟩, ⟨(some 8), (.op (.mv (.t 21))), none⟩])
   (.seq (.reg [⟨(some 22), (.op (.mv (.t 8))), none⟩, ⟨(some 23), (.op (.mv (.t 22))), none⟩, ⟨(some 24), (.op (.mv (.t 6))), (some (23, true))⟩, ⟨(some 25), (.op (.mv (.t 24))), (some (23, true))⟩, ⟨(some 26), (.op (.mv (.t 7))), (some (25, false))⟩, ⟨(some 27), (.op (.pick (.t 25) (.k (.bool true)) (.t 26))), (some (23, true))⟩, ⟨(some 28), (.op (.pick (.t 23) (.t 27) (.k (.bool false)))), none⟩])
   (.cond (.t 28) (.seq (.reg [⟨(some 4), (.op (.mv (.k (.bool true)))), none⟩])
   .ret)
   .skip))))))))))
  (.seq (.reg [⟨(some 4), (.op (.mv (.k (.bool false)))), none⟩])
  .ret)))
def a33 : AF := ⟨29, [(.t 4)], .code b33, none⟩
theorem ok33 : AFOk Tryd.prog ext 33 a33 := .of Tryd.func33 (by kernel_rfl) (by kernel_rfl) (by kernel_rfl) (by kernel_rfl)
/-! 34: rowlock/trace.apart -/
def b34 : AC :=
  (.seq (.reg [⟨(some 6), (.op (.mv (.k (.bool false)))), none⟩])
  (.seq (.reg [⟨(some 7), (.op (.mv (.t 0))), none⟩, ⟨(some 8), (.op (.mv (.t 1))), none⟩, ⟨(some 9), (.op (.mv (.t 2))), none⟩, ⟨(some 10), (.call (.f 13) [(.t 7), (.t 8), (.t 9)]), none⟩, ⟨(some 11), (.op (.mv (.t 10))), none⟩, ⟨(some 12), (.op (.mv (.t 0))), (some (11, false))⟩, ⟨(some 13), (.op (.mv (.t 2))), (some (11, false))⟩, ⟨(some 14), (.op (.mv (.t 1))), (some (11, false))⟩, ⟨(some 15), (.call (.f 13) [(.t 12), (.t 13), (.t 14)]), (some (11, false))⟩, ⟨(some 16), (.op (.pick (.t 11) (.k (.bool true)) (.t 15))), none⟩, ⟨(some 6), (.op (.mv (.t 16))), none⟩])
  .ret))
def a34 : AF := ⟨17, [(.t 6)], .code b34, none⟩
theorem ok34 : AFOk Tryd.prog ext 34 a34 := .of Tryd.func34 (by kernel_rfl) (by kernel_rfl) (by kernel_rfl) (by kernel_rfl)
/-! 35: rowlock/rowlockref08.Attempts -/
def b35 : AC :=
  (.seq (.reg [⟨(some 2), (.op (.mv (.k (.slice none 0 0)))), none⟩])
  (.seq (.reg [⟨(some 3), (.op (.mv (.k (.slice none 0 0)))), none⟩])
  (.seq (.seq (.reg [⟨(some 4), (.op (.mv (.k (.int .i64 0)))), none⟩])
  (.block 0 (.loop (.seq (.seq (.reg [⟨(some 5), (.op (.mv (.t 4))), none⟩, ⟨(some 6), (.op (.mv (.t 0))), none⟩, ⟨(some 7), (.op (.lenS (.t 6))), none⟩, ⟨(some 8), (.op (.bin .lss (.t 5) (.t 7))), none⟩])
   (.cond (.t 8) .skip
   (.exit 0)))
   (.seq (.block 1 (.seq (.reg [⟨(some 11), (.op (.mv (.t 0))), none⟩, ⟨(some 12), (.op (.mv (.t 4))), none⟩, ⟨(some 13), (.op (.iaddrS 4 (.t 11) (.t 12))), none⟩, ⟨(some 14), (.op (.faddr 0 (.t 13))), none⟩, ⟨(some 15), (.op (.load (.t 14))), none⟩, ⟨(some 16), (.op (.bin .eql (.t 15) (.k (.int .u8 1)))), none⟩, ⟨(some 17), (.op (.mv (.t 16))), none⟩, ⟨(some 18), (.op (.mv (.t 0))), (some (17, true))⟩, ⟨(some 19), (.op (.mv (.t 4))), (some (17, true))⟩, ⟨(some 20), (.op (.mv (.t 0))), (some (17, true))⟩, ⟨(some 21), (.op (.mv (.t 4))), (some (17, true))⟩, ⟨(some 22), (.op (.iaddrS 4 (.t 20) (.t 21))), (some (17, true))⟩, ⟨(some 23), (.op (.faddr 1 (.t 22))), (some (17, true))⟩, ⟨(some 24), (.op (.load (.t 23))), (some (17, true))⟩, ⟨(some 25), (.call (.f 51) [(.t 18), (.t 19), (.t 24), (.k (.int .u8 1))]), (some (17, true))⟩, ⟨(some 26), (.op (.un .not (.t 25))), (some (17, true))⟩, ⟨(some 27), (.op (.pick (.t 17) (.t 26) (.k (.bool false)))), none⟩])
   (.cond (.t 27) (.reg [⟨(some 28), (.op (.mv (.t 3))), none⟩, ⟨(some 29), (.op (.mv (.t 0))), none⟩, ⟨(some 30), (.op (.mv (.t 4))), none⟩, ⟨(some 31), (.op (.iaddrS 4 (.t 29) (.t 30))), none⟩, ⟨(some 32), (.op (.faddr 1 (.t 31))), none⟩, ⟨(some 33), (.op (.load (.t 32))), none⟩, ⟨(some 34), (.op (.bslice 3 [(.int .i64 0)] 1 [(0, 1, (.t 33))])), none⟩, ⟨(some 35), (.op (.append 3 1 8 (.t 28) (.t 34))), none⟩, ⟨(some 3), (.op (.mv (.t 35))), none⟩])
   .skip)))
   (.reg [⟨(some 9), (.op (.mv (.t 4))), none⟩, ⟨(some 10), (.op (.bin .add (.t 9) (.k (.int .i64 1)))), none⟩, ⟨(some 4), (.op (.mv (.t 10))), none⟩]))))))
  (.seq (.reg [⟨(some 36), (.op (.mv (.t 3))), none⟩, ⟨(some 2), (.op (.mv (.t 36))), none⟩])
  .ret))))
def a35 : AF := ⟨37, [(.t 2)], .code b35, none⟩
theorem ok35 : AFOk Tryd.prog ext 35 a35 := .of Tryd.func35 (by kernel_rfl) (by kernel_rfl) (by kernel_rfl) (by kernel_rfl)
/-! 36: rowlock/rowlockref08.Before -/
def b36 : AC :=
  (.seq (.reg [⟨(some 6), (.op (.mv (.k (.bool false)))), none⟩])
  (.seq (.seq (.reg [⟨(some 7), (.op (.mv (.k (.int .i64 0)))), none⟩])
  (.block 0 (.loop (.seq (.seq (.reg [⟨(some 8), (.op (.mv (.t 7))), none⟩, ⟨(some 9), (.op (.mv (.t 0))), none⟩, ⟨(some 10), (.op (.lenS (.t 9))), none⟩, ⟨(some 11), (.op (.bin .lss (.t 8) (.t 10))), none⟩])
   (.cond (.t 11) .skip
   (.exit 0)))
   (.seq (.block 1 (.seq (.reg [⟨(some 14), (.op (.mv (.t 0))), none⟩, ⟨(some 15), (.op (.mv (.t 7))), none⟩, ⟨(some 16), (.op (.iaddrS 4 (.t 14) (.t 15))), none⟩, ⟨(some 17), (.op (.faddr 0 (.t 16))), none⟩, ⟨(some 18), (.op (.load (.t 17))), none⟩, ⟨(some 19), (.op (.bin .eql (.t 18) (.k (.int .u8 1)))), none⟩, ⟨(some 20), (.op (.mv (.t 19))), none⟩, ⟨(some 21), (.op (.mv (.t 0))), (some (20, true))⟩, ⟨(some 22), (.op (.mv (.t 7))), (some (20, true))⟩, ⟨(some 23), (.op (.iaddrS 4 (.t 21) (.t 22))), (some (20, true))⟩, ⟨(some 24), (.op (.faddr 1 (.t 23))), (some (20, true))⟩, ⟨(some 25), (.op (.load (.t 24))), (some (20, true))⟩, ⟨(some 26), (.op (.mv (.t 2))), (some (20, true))⟩, ⟨(some 27), (.op (.bin .eql (.t 25) (.t 26))), (some (20, true))⟩, ⟨(some 28), (.op (.pick (.t 20) (.t 27) (.k (.bool false)))), none⟩])
   (.cond (.t 28) (.seq (.reg [⟨(some 29), (.op (.mv (.t 0))), none⟩, ⟨(some 30), (.op (.mv (.t 7))), none⟩, ⟨(some 31), (.op (.mv (.t 1))), none⟩, ⟨(some 32), (.call (.f 51) [(.t 29), (.t 30), (.t 31), (.k (.int .u8 8))]), none⟩, ⟨(some 33), (.op (.mv (.t 32))), none⟩, ⟨(some 34), (.op (.mv (.t 0))), (some (33, false))⟩, ⟨(some 35), (.op (.mv (.t 7))), (some (33, false))⟩, ⟨(some 36), (.op (.mv (.t 1))), (some (33, false))⟩, ⟨(some 37), (.call (.f 51) [(.t 34), (.t 35), (.t 36), (.k (.int .u8 9))]), (some (33, false))⟩, ⟨(some 38), (.op (.pick (.t 33) (.k (.bool true)) (.t 37))), none⟩, ⟨(some 6), (.op (.mv (.t 38))), none⟩])
   .ret)
   .skip)))
   (.reg [⟨(some 12), (.op (.mv (.t 7))), none⟩, ⟨(some 13), (.op (.bin .add (.t 12) (.k (.int .i64 1)))), none⟩, ⟨(some 7), (.op (.mv (.t 13))), none⟩]))))))
  (.seq (.reg [⟨(some 6), (.op (.mv (.k (.bool false)))), none⟩])
  .ret)))
def a36 : AF := ⟨39, [(.t 6)], .code b36, none⟩
theorem ok36 : AFOk Tryd.prog ext 36 a36 := .of Tryd.func36 (by kernel_rfl) (by kernel_rfl) (by kernel_rfl) (by kernel_rfl)
/-! 37: rowlock/rowlockref25.meet -/
def b37 : AC :=
  (.seq (.reg [⟨(some 6), (.op (.mv (.k (.bool false)))), none⟩])
  (.seq (.seq (.reg [⟨(some 7), (.op (.mv (.k (.int .i64 0)))), none⟩])
  (.block 0 (.loop (.seq (.seq (.reg [⟨(some 11), (.op (.mv (.t 7))), none⟩, ⟨(some 12), (.op (.mv (.t 0))), none⟩, ⟨(some 13), (.op (.lenS (.t 12))), none⟩, ⟨(some 14), (.op (.bin .lss (.t 11) (.t 13))), none⟩])
   (.cond (.t 14) .skip
   (.exit 0)))
   (.seq (.block 1 (.seq (.reg [⟨(some 8), (.op (.mv (.k (.int .i64 0)))), none⟩])
   (.block 2 (.loop (.seq (.seq (.reg [⟨(some 17), (.op (.mv (.t 8))), none⟩, ⟨(some 18), (.op (.mv (.t 0))), none⟩, ⟨(some 19), (.op (.lenS (.t 18))), none⟩, ⟨(some 20), (.op (.bin .lss (.t 17) (.t 19))), none⟩])
    (.cond (.t 20) .skip
    (.exit 2)))
    (.seq (.block 3 (.seq (.dreg (.quiet ⟨(some 23), (.op (.mv (.t 0))), none⟩ (.quiet ⟨(some 24), (.op (.mv (.t 7))), none⟩ (.quiet ⟨(some 25), (.op (.iaddrS 4 (.t 23) (.t 24))), none⟩ (.quiet ⟨(some 26), (.op (.loadN 4 (.t 25))), none⟩ (.quiet ⟨(some 27), (.op (.mv (.t 0))), none⟩ (.quiet ⟨(some 28), (.op (.mv (.t 8))), none⟩ (.quiet ⟨(some 29), (.op (.iaddrS 4 (.t 27) (.t 28))), none⟩ (.quiet ⟨(some 30), (.op (.loadN 4 (.t 29))), none⟩ (.both (.loud ⟨(some 9), (.op (.alloc 43 [(.int .u8 0), (.int .i64 0), (.int .i64 0), (.int .u64 0)])), none⟩ [⟨(some 30), (.op (.loadN 4 (.t 29))), none⟩, ⟨(some 26), (.op (.loadN 4 (.t 25))), none⟩] (.loud ⟨(some 10), (.op (.alloc 43 [(.int .u8 0), (.int .i64 0), (.int .i64 0), (.int .u64 0)])), none⟩ [⟨(some 30), (.op (.loadN 4 (.t 29))), none⟩, ⟨(some 26), (.op (.loadN 4 (.t 25))), none⟩] (.loud ⟨none, (.op (.store 4 (.t 9) (.t 26))), none⟩ [⟨(some 30), (.op (.loadN 4 (.t 29))), none⟩] (.loud ⟨none, (.op (.store 4 (.t 10) (.t 30))), none⟩ [] .nil))))
    (.loud ⟨(some 10), (.op (.alloc 43 [(.int .u8 0), (.int .i64 0), (.int .i64 0), (.int .u64 0)])), none⟩ [⟨(some 30), (.op (.loadN 4 (.t 29))), none⟩, ⟨(some 26), (.op (.loadN 4 (.t 25))), none⟩] (.loud ⟨(some 9), (.op (.alloc 43 [(.int .u8 0), (.int .i64 0), (.int .i64 0), (.int .u64 0)])), none⟩ [⟨(some 30), (.op (.loadN 4 (.t 29))), none⟩, ⟨(some 26), (.op (.loadN 4 (.t 25))), none⟩] (.loud ⟨none, (.op (.store 4 (.t 9) (.t 26))), none⟩ [⟨(some 30), (.op (.loadN 4 (.t 29))), none⟩] (.loud ⟨none, (.op (.store 4 (.t 10) (.t 30))), none⟩ [] .nil))))))))))))))
    (.seq (.seq (.reg [⟨(some 31), (.op (.faddr 1 (.t 9))), none⟩, ⟨(some 32), (.op (.load (.t 31))), none⟩, ⟨(some 33), (.op (.mv (.t 1))), none⟩, ⟨(some 34), (.op (.bin .neq (.t 32) (.t 33))), none⟩, ⟨(some 35), (.op (.mv (.t 34))), none⟩, ⟨(some 36), (.op (.faddr 1 (.t 10))), (some (35, false))⟩, ⟨(some 37), (.op (.load (.t 36))), (some (35, false))⟩, ⟨(some 38), (.op (.mv (.t 2))), (some (35, false))⟩, ⟨(some 39), (.op (.bin .neq (.t 37) (.t 38))), (some (35, false))⟩, ⟨(some 40), (.op (.pick (.t 35) (.k (.bool true)) (.t 39))), none⟩, ⟨(some 41), (.op (.mv (.t 40))), none⟩, ⟨(some 42), (.op (.faddr 2 (.t 9))), (some (41, false))⟩, ⟨(some 43), (.op (.load (.t 42))), (some (41, false))⟩, ⟨(some 44), (.op (.faddr 2 (.t 10))), (some (41, false))⟩, ⟨(some 45), (.op (.load (.t 44))), (some (41, false))⟩, ⟨(some 46), (.op (.bin .neq (.t 43) (.t 45))), (some (41, false))⟩, ⟨(some 47), (.op (.pick (.t 41) (.k (.bool true)) (.t 46))), none⟩])
    (.cond (.t 47) (.exit 3)
    .skip))
    (.seq (.reg [⟨(some 48), (.op (.faddr 0 (.t 9))), none⟩, ⟨(some 49), (.op (.load (.t 48))), none⟩, ⟨(some 50), (.op (.bin .eql (.t 49) (.k (.int .u8 3)))), none⟩, ⟨(some 51), (.op (.mv (.t 50))), none⟩, ⟨(some 52), (.op (.faddr 0 (.t 10))), (some (51, true))⟩, ⟨(some 53), (.op (.load (.t 52))), (some (51, true))⟩, ⟨(some 54), (.op (.bin .eql (.t 53) (.k (.int .u8 3)))), (some (51, true))⟩, ⟨(some 55), (.op (.mv (.t 54))), (some (51, true))⟩, ⟨(some 56), (.op (.faddr 0 (.t 10))), (some (55, false))⟩, ⟨(some 57), (.op (.load (.t 56))), (some (55, false))⟩, ⟨(some 58), (.op (.bin .eql (.t 57) (.k (.int .u8 2)))), (some (55, false))⟩, ⟨(some 59), (.op (.pick (.t 55) (.k (.bool true)) (.t 58))), (some (51, true))⟩, ⟨(some 60), (.op (.pick (.t 51) (.t 59) (.k (.bool false)))), none⟩, ⟨(some 61), (.op (.mv (.t 60))), none⟩, ⟨(some 62), (.op (.faddr 0 (.t 9))), (some (61, false))⟩, ⟨(some 63), (.op (.load (.t 62))), (some (61, false))⟩, ⟨(some 64), (.op (.bin .eql (.t 63) (.k (.int .u8 2)))), (some (61, false))⟩, ⟨(some 65), (.op (.mv (.t 64))), (some (61, false))⟩, ⟨(some 66), (.op (.faddr 0 (.t 10))), (some (65, true))⟩, ⟨(some 67), (.op (.load (.t 66))), (some (65, true))⟩, ⟨(some 68), (.op (.bin .eql (.t 67) (.k (.int .u8 3)))), (some (65, true))⟩, ⟨(some 69), (.op (.pick (.t 65) (.t 68) (.k (.bool false)))), (some (61, false))⟩, ⟨(some 70), (.op (.pick (.t 61) (.k (.bool true)) (.t 69))), none⟩])
    (.cond (.t 70) (.seq (.reg [⟨(some 6), (.op (.mv (.k (.bool true)))), none⟩])
    .ret)
    .skip)))))
    (.reg [⟨(some 21), (.op (.mv (.t 8))), none⟩, ⟨(some 22), (.op (.bin .add (.t 21) (.k (.int .i64 1)))), none⟩, ⟨(some 8), (.op (.mv (.t 22))), none⟩])))))))
   (.reg [⟨(some 15), (.op (.mv (.t 7))), none⟩, ⟨(some 16), (.op (.bin .add (.t 15) (.k (.int .i64 1)))), none⟩, ⟨(some 7), (.op (.mv (.t 16))), none⟩]))))))
  (.seq (.reg [⟨(some 6), (.op (.mv (.k (.bool false)))), none⟩])
  .ret)))
def a37 : AF := ⟨71, [(.t 6)], .code b37, none⟩
theorem ok37 : AFOk Tryd.prog ext 37 a37 := .of Tryd.func37 (by kernel_rfl) (by kernel_rfl) (by kernel_rfl) (by kernel_rfl)
/-! 38: rowlock/rowlockref08.In -/
def b38 : AC :=
  (.seq (.reg [⟨(some 4), (.op (.mv (.k (.slice none 0 0)))), none⟩])
  (.seq (.reg [⟨(some 5), (.op (.mv (.k (.slice none 0 0)))), none⟩])
  (.seq (.reg [⟨(some 8), (.op (.mv (.t 0))), none⟩, ⟨(some 9), (.call (.f 35) [(.t 8)]), none⟩, ⟨(some 6), (.op (.mv (.t 9))), none⟩])
  (.seq (.seq (.reg [⟨(some 7), (.op (.mv (.k (.int .i64 0)))), none⟩])
  (.block 0 (.loop (.seq (.seq (.reg [⟨(some 10), (.op (.mv (.t 7))), none⟩, ⟨(some 11), (.op (.mv (.t 6))), none⟩, ⟨(some 12), (.op (.lenS (.t 11))), none⟩, ⟨(some 13), (.op (.bin .lss (.t 10) (.t 12))), none⟩])
   (.cond (.t 13) .skip
   (.exit 0)))
   (.seq (.block 1 (.seq (.reg [⟨(some 16), (.op (.mv (.t 0))), none⟩, ⟨(some 17), (.op (.mv (.t 6))), none⟩, ⟨(some 18), (.op (.mv (.t 7))), none⟩, ⟨(some 19), (.op (.iaddrS 1 (.t 17) (.t 18))), none⟩, ⟨(some 20), (.op (.load (.t 19))), none⟩, ⟨(some 21), (.call (.f 52) [(.t 16), (.t 20)]), none⟩, ⟨(some 22), (.op (.mv (.t 1))), none⟩, ⟨(some 23), (.op (.bin .eql (.t 21) (.t 22))), none⟩])
   (.cond (.t 23) (.reg [⟨(some 24), (.op (.mv (.t 5))), none⟩, ⟨(some 25), (.op (.mv (.t 6))), none⟩, ⟨(some 26), (.op (.mv (.t 7))), none⟩, ⟨(some 27), (.op (.iaddrS 1 (.t 25) (.t 26))), none⟩, ⟨(some 28), (.op (.load (.t 27))), none⟩, ⟨(some 29), (.op (.bslice 3 [(.int .i64 0)] 1 [(0, 1, (.t 28))])), none⟩, ⟨(some 30), (.op (.append 3 1 8 (.t 24) (.t 29))), none⟩, ⟨(some 5), (.op (.mv (.t 30))), none⟩])
   .skip)))
   (.reg [⟨(some 14), (.op (.mv (.t 7))), none⟩, ⟨(some 15), (.op (.bin .add (.t 14) (.k (.int .i64 1)))), none⟩, ⟨(some 7), (.op (.mv (.t 15))), none⟩]))))))
  (.seq (.reg [⟨(some 31), (.op (.mv (.t 5))), none⟩, ⟨(some 4), (.op (.mv (.t 31))), none⟩])
  .ret)))))
def a38 : AF := ⟨32, [(.t 4)], .code b38, none⟩
theorem ok38 : AFOk Tryd.prog ext 38 a38 := .of Tryd.func38 (by kernel_rfl) (by kernel_rfl) (by kernel_rfl) (by kernel_rfl)
/-! 39: (*strings.Builder).WriteString -/
def b39 : AC :=
  (.seq (.reg [⟨(some 4), (.op (.mv (.k (.int .i64 0)))), none⟩, ⟨(some 5), (.op (.mv (.k .nilIface))), none⟩])
  (.seq (.reg [⟨(some 6), (.op (.mv (.t 0))), none⟩, ⟨(some 7), (.call (.f 53) [(.t 6)]), none⟩])
  (.seq (.reg [⟨(some 8), (.op (.mv (.t 0))), none⟩, ⟨(some 9), (.op (.mv (.t 0))), none⟩, ⟨(some 10), (.op (.nilchk (.t 9))), none⟩, ⟨(some 11), (.op (.faddr 1 (.t 10))), none⟩, ⟨(some 12), (.op (.load (.t 11))), none⟩, ⟨(some 13), (.op (.mv (.t 1))), none⟩, ⟨(some 14), (.op (.appendT 5 (.t 12) (.t 13))), none⟩, ⟨(some 15), (.op (.nilchk (.t 8))), none⟩, ⟨(some 16), (.op (.faddr 1 (.t 15))), none⟩, ⟨none, (.op (.store 1 (.t 16) (.t 14))), none⟩])
  (.seq (.reg [⟨(some 17), (.op (.mv (.t 1))), none⟩, ⟨(some 18), (.op (.lenT (.t 17))), none⟩, ⟨(some 4), (.op (.mv (.t 18))), none⟩, ⟨(some 5), (.op (.mv (.k .nilIface))), none⟩])
  .ret))))
def a39 : AF := ⟨19, [(.t 4), (.t 5)], .code b39, none⟩
theorem ok39 : AFOk Tryd.prog ext 39 a39 := .of Tryd.func39 (by kernel_rfl) (by kernel_rfl) (by kernel_rfl) (by kernel_rfl)
/-! 40: rowlock/trace.line -/
def b40 : AC :=
  (.seq (.reg [⟨(some 1), (.op (.box 43 (.t 0))), none⟩, ⟨(some 2), (.op (.mv (.k (.string ⟨#[]⟩)))), none⟩])
  (.seq (.dreg (.quiet ⟨(some 4), (.op (.faddr 0 (.t 1))), none⟩ (.quiet ⟨(some 5), (.op (.load (.t 4))), none⟩ (.quiet ⟨(some 7), (.op (.faddr 1 (.t 1))), none⟩ (.quiet ⟨(some 8), (.op (.load (.t 7))), none⟩ (.loud ⟨(some 6), (.call (.f 54) [(.t 5)]), none⟩ [⟨(some 8), (.op (.load (.t 7))), none⟩] (.loud ⟨(some 9), (.call (.f 55) [(.t 8)]), none⟩ [] (.loud ⟨(some 10), (.op (.bslice 9 [(.string ⟨#[]⟩), (.string ⟨#[]⟩)] 2 [(0, 1, (.t 6)), (1, 1, (.t 9))])), none⟩ [] (.loud ⟨(some 3), (.op (.mv (.t 10))), none⟩ [] .nil)))))))))
  (.seq (.seq (.reg [⟨(some 11), (.op (.faddr 0 (.t 1))), none⟩, ⟨(some 12), (.op (.load (.t 11))), none⟩])
  (.block 0 (.seq (.block 2 (.block 1 (.seq (.seq (.seq (.reg [⟨(some 14), (.op (.bin .eql (.t 12) (.k (.int .u8 3)))), none⟩, ⟨(some 13), (.op (.mv (.t 14))), none⟩])
  (.cond (.t 13) (.exit 1)
  .skip))
  (.seq (.reg [⟨(some 16), (.op (.bin .eql (.t 12) (.k (.int .u8 2)))), none⟩, ⟨(some 15), (.op (.mv (.t 16))), none⟩])
  (.cond (.t 15) (.exit 2)
  .skip)))
  (.exit 0))))
  (.seq (.dreg (.quiet ⟨(some 17), (.op (.mv (.t 3))), none⟩ (.quiet ⟨(some 18), (.op (.faddr 2 (.t 1))), none⟩ (.quiet ⟨(some 19), (.op (.load (.t 18))), none⟩ (.quiet ⟨(some 21), (.op (.faddr 3 (.t 1))), none⟩ (.quiet ⟨(some 22), (.op (.load (.t 21))), none⟩ (.loud ⟨(some 20), (.call (.f 55) [(.t 19)]), none⟩ [⟨(some 22), (.op (.load (.t 21))), none⟩] (.loud ⟨(some 23), (.call (.f 56) [(.t 22)]), none⟩ [] (.loud ⟨(some 24), (.op (.bslice 9 [(.string ⟨#[]⟩), (.string ⟨#[]⟩)] 2 [(0, 1, (.t 20)), (1, 1, (.t 23))])), none⟩ [] (.loud ⟨(some 25), (.op (.append 9 1 16 (.t 17) (.t 24))), none⟩ [] (.loud ⟨(some 3), (.op (.mv (.t 25))), none⟩ [] .nil)))))))))))
  (.exit 0)))))
  (.seq (.reg [⟨(some 26), (.op (.mv (.t 3))), none⟩, ⟨(some 27), (.call (.f 57) [(.t 26), (.k (.string ⟨#[32]⟩))]), none⟩, ⟨(some 2), (.op (.mv (.t 27))), none⟩])
  .ret))))
def a40 : AF := ⟨28, [(.t 2)], .code b40, none⟩
theorem ok40 : AFOk Tryd.prog ext 40 a40 := .of Tryd.func40 (by kernel_rfl) (by kernel_rfl) (by kernel_rfl) (by kernel_rfl)
/-! 41: (*strings.Builder).WriteByte -/
def b41 : AC :=
  (.seq (.reg [⟨(some 4), (.op (.mv (.k .nilIface))), none⟩])
  (.seq (.reg [⟨(some 5), (.op (.mv (.t 0))), none⟩, ⟨(some 6), (.call (.f 53) [(.t 5)]), none⟩])
  (.seq (.reg [⟨(some 7), (.op (.mv (.t 0))), none⟩, ⟨(some 8), (.op (.mv (.t 0))), none⟩, ⟨(some 9), (.op (.nilchk (.t 8))), none⟩, ⟨(some 10), (.op (.faddr 1 (.t 9))), none⟩, ⟨(some 11), (.op (.load (.t 10))), none⟩, ⟨(some 12), (.op (.mv (.t 1))), none⟩, ⟨(some 13), (.op (.bslice 5 [(.int .u8 0)] 1 [(0, 1, (.t 12))])), none⟩, ⟨(some 14), (.op (.append 5 1 1 (.t 11) (.t 13))), none⟩, ⟨(some 15), (.op (.nilchk (.t 7))), none⟩, ⟨(some 16), (.op (.faddr 1 (.t 15))), none⟩, ⟨none, (.op (.store 1 (.t 16) (.t 14))), none⟩])
  (.seq (.reg [⟨(some 4), (.op (.mv (.k .nilIface))), none⟩])
  .ret))))
def a41 : AF := ⟨17, [(.t 4)], .code b41, none⟩
theorem ok41 : AFOk Tryd.prog ext 41 a41 := .of Tryd.func41 (by kernel_rfl) (by kernel_rfl) (by kernel_rfl) (by kernel_rfl)
/-! 42: (*strings.Builder).String -/
def b42 : AC :=
  (.seq (.reg [⟨(some 2), (.op (.mv (.k (.string ⟨#[]⟩)))), none⟩])
  (.seq (.dreg (.quiet ⟨(some 3), (.op (.mv (.t 0))), none⟩ (.quiet ⟨(some 4), (.op (.nilchk (.t 3))), none⟩ (.quiet ⟨(some 5), (.op (.faddr 1 (.t 4))), none⟩ (.quiet ⟨(some 6), (.op (.load (.t 5))), none⟩ (.quiet ⟨(some 7), (.op (.sdata (.t 6))), none⟩ (.quiet ⟨(some 8), (.op (.mv (.t 0))), none⟩ (.quiet ⟨(some 9), (.op (.nilchk (.t 8))), none⟩ (.quiet ⟨(some 10), (.op (.faddr 1 (.t 9))), none⟩ (.quiet ⟨(some 11), (.op (.load (.t 10))), none⟩ (.quiet ⟨(some 12), (.op (.lenS (.t 11))), none⟩ (.loud ⟨(some 13), (.op (.ustr 5 (.t 7) (.t 12))), none⟩ [] (.loud ⟨(some 2), (.op (.mv (.t 13))), none⟩ [] .nil)))))))))))))
  .ret))
def a42 : AF := ⟨14, [(.t 2)], .code b42, none⟩
theorem ok42 : AFOk Tryd.prog ext 42 a42 := .of Tryd.func42 (by kernel_rfl) (by kernel_rfl) (by kernel_rfl) (by kernel_rfl)
/-! 43: slices.Index[[]int,int] -/
def b43 : AC :=
  (.seq (.reg [⟨(some 4), (.op (.mv (.k (.int .i64 0)))), none⟩])
  (.seq (.seq (.reg [⟨(some 6), (.op (.mv (.t 0))), none⟩, ⟨(some 7), (.op (.lenS (.t 6))), none⟩, ⟨(some 8), (.op (.mv (.k (.int .i64 0)))), none⟩])
  (.block 0 (.loop (.seq (.reg [⟨(some 9), (.op (.bin .lss (.t 8) (.t 7))), none⟩])
   (.seq (.cond (.t 9) .skip
   (.exit 0))
   (.seq (.block 1 (.seq (.reg [⟨(some 10), (.op (.mv (.t 8))), none⟩, ⟨(some 5), (.op (.mv (.t 10))), none⟩])
   (.seq (.reg [⟨(some 11), (.op (.mv (.t 1))), none⟩, ⟨(some 12), (.op (.mv (.t 0))), none⟩, ⟨(some 13), (.op (.mv (.t 5))), none⟩, ⟨(some 14), (.op (.iaddrS 1 (.t 12) (.t 13))), none⟩, ⟨(some 15), (.op (.load (.t 14))), none⟩, ⟨(some 16), (.op (.bin .eql (.t 11) (.t 15))), none⟩])
   (.cond (.t 16) (.seq (.reg [⟨(some 17), (.op (.mv (.t 5))), none⟩, ⟨(some 4), (.op (.mv (.t 17))), none⟩])
   .ret)
   .skip))))
   (.reg [⟨(some 18), (.op (.bin .add (.t 8) (.k (.int .i64 1)))), none⟩, ⟨(some 8), (.op (.mv (.t 18))), none⟩])))))))
  (.seq (.reg [⟨(some 4), (.op (.mv (.k (.int .i64 (-1))))), none⟩])
  .ret)))
def a43 : AF := ⟨19, [(.t 4)], .code b43, none⟩
theorem ok43 : AFOk Tryd.prog ext 43 a43 := .of Tryd.func43 (by kernel_rfl) (by kernel_rfl) (by kernel_rfl) (by kernel_rfl)
/-! 44: rowlock/history.need -/
def b44 : AC :=
  (.seq (.reg [⟨(some 2), (.op (.mv (.t 0))), none⟩, ⟨(some 3), (.op (.un .not (.t 2))), none⟩])
  (.cond (.t 3) (.reg [⟨(some 4), (.op (.build [] [])), none⟩, ⟨(some 5), (.op (.mkiface 54 (.t 4))), none⟩, ⟨none, (.panic (.t 5)), none⟩])
  .skip))
def a44 : AF := ⟨6, [], .code b44, none⟩
theorem ok44 : AFOk Tryd.prog ext 44 a44 := .of Tryd.func44 (by kernel_rfl) (by kernel_rfl) (by kernel_rfl) (by kernel_rfl)
/-! 45: rowlock/history.bare -/
def b45 : AC :=
  (.seq (.reg [⟨(some 1), (.op (.box 43 (.t 0))), none⟩, ⟨(some 2), (.op (.mv (.k (.bool false)))), none⟩])
  (.seq (.reg [⟨(some 3), (.op (.faddr 2 (.t 1))), none⟩, ⟨(some 4), (.op (.load (.t 3))), none⟩, ⟨(some 5), (.op (.bin .eql (.t 4) (.k (.int .i64 0)))), none⟩, ⟨(some 6), (.op (.mv (.t 5))), none⟩, ⟨(some 7), (.op (.faddr 3 (.t 1))), (some (6, true))⟩, ⟨(some 8), (.op (.load (.t 7))), (some (6, true))⟩, ⟨(some 9), (.op (.bin .eql (.t 8) (.k (.int .u64 0)))), (some (6, true))⟩, ⟨(some 10), (.op (.pick (.t 6) (.t 9) (.k (.bool false)))), none⟩, ⟨(some 2), (.op (.mv (.t 10))), none⟩])
  .ret))
def a45 : AF := ⟨11, [(.t 2)], .code b45, none⟩
theorem ok45 : AFOk Tryd.prog ext 45 a45 := .of Tryd.func45 (by kernel_rfl) (by kernel_rfl) (by kernel_rfl) (by kernel_rfl)
/-! 46: rowlock/writes.New -/
def b46 : AC :=
  (.seq (.reg [⟨(some 0), (.op (.mv (.k (.pointer none)))), none⟩])
  (.seq (.reg [⟨(some 1), (.op (.mv (.k (.pointer none)))), none⟩])
  (.seq (.reg [⟨(some 2), (.op (.mv (.t 1))), none⟩, ⟨(some 3), (.call (.f 58) [(.t 2), (.k (.slice none 0 0))]), none⟩, ⟨(some 4), (.op (.build [(.pointer none), (.int .i64 0)] [(0, 1, (.t 3))])), none⟩, ⟨(some 5), (.op (.box 100 (.t 4))), none⟩, ⟨(some 0), (.op (.mv (.t 5))), none⟩])
  .ret)))
def a46 : AF := ⟨6, [(.t 0)], .code b46, none⟩
theorem ok46 : AFOk Tryd.prog ext 46 a46 := .of Tryd.func46 (by kernel_rfl) (by kernel_rfl) (by kernel_rfl) (by kernel_rfl)
/-! 47: rowlock/value.Right -/
def b47 : AC :=
  (.seq (.reg [⟨(some 2), (.op (.mv (.k (.bool false)))), none⟩])
  (.seq (.reg [⟨(some 3), (.op (.mv (.t 0))), none⟩, ⟨(some 4), (.op (.bin .andNot (.t 3) (.k (.int .u64 9223372036854775808)))), none⟩, ⟨(some 5), (.op (.bin .leq (.t 4) (.k (.int .u64 9218868437227405312)))), none⟩, ⟨(some 6), (.op (.mv (.t 5))), none⟩, ⟨(some 7), (.op (.mv (.t 0))), (some (6, false))⟩, ⟨(some 8), (.op (.bin .eql (.t 7) (.k (.int .u64 9221120237041090560)))), (some (6, false))⟩, ⟨(some 9), (.op (.pick (.t 6) (.k (.bool true)) (.t 8))), none⟩, ⟨(some 2), (.op (.mv (.t 9))), none⟩])
  .ret))
def a47 : AF := ⟨10, [(.t 2)], .code b47, none⟩
theorem ok47 : AFOk Tryd.prog ext 47 a47 := .of Tryd.func47 (by kernel_rfl) (by kernel_rfl) (by kernel_rfl) (by kernel_rfl)
/-! 48: (*rowlock/history.attempt).act -/
def b48 : AC :=
  (.seq (.reg [⟨(some 3), (.op (.box 43 (.t 1))), none⟩, ⟨(some 4), (.op (.mv (.k (.int .i64 0)))), none⟩])
  (.seq (.seq (.reg [⟨(some 5), (.op (.faddr 0 (.t 3))), none⟩, ⟨(some 6), (.op (.load (.t 5))), none⟩])
  (.block 0 (.seq (.reg [⟨(some 8), (.op (.bin .eql (.t 6) (.k (.int .u8 3)))), none⟩, ⟨(some 7), (.op (.mv (.t 8))), none⟩])
  (.cond (.t 7) (.seq (.dreg (.quiet ⟨(some 9), (.op (.mv (.t 0))), none⟩ (.quiet ⟨(some 10), (.op (.nilchk (.t 9))), none⟩ (.quiet ⟨(some 11), (.op (.faddr 0 (.t 10))), none⟩ (.quiet ⟨(some 12), (.op (.load (.t 11))), none⟩ (.quiet ⟨(some 13), (.op (.faddr 2 (.t 3))), none⟩ (.quiet ⟨(some 14), (.op (.load (.t 13))), none⟩ (.quiet ⟨(some 15), (.op (.faddr 3 (.t 3))), none⟩ (.quiet ⟨(some 16), (.op (.load (.t 15))), none⟩ (.loud ⟨(some 17), (.call (.f 59) [(.t 12), (.t 14), (.t 16)]), none⟩ [] (.loud ⟨(some 4), (.op (.mv (.t 17))), none⟩ [] .nil)))))))))))
  .ret)
  (.seq (.reg [⟨(some 19), (.op (.bin .eql (.t 6) (.k (.int .u8 4)))), none⟩, ⟨(some 18), (.op (.mv (.t 19))), none⟩])
  (.cond (.t 18) (.seq (.reg [⟨(some 20), (.op (.mv (.t 0))), none⟩, ⟨(some 21), (.op (.nilchk (.t 20))), none⟩, ⟨(some 22), (.op (.faddr 0 (.t 21))), none⟩, ⟨(some 23), (.op (.load (.t 22))), none⟩, ⟨(some 24), (.call (.f 60) [(.t 23)]), none⟩, ⟨(some 4), (.op (.mv (.t 24))), none⟩])
  .ret)
  (.seq (.reg [⟨(some 26), (.op (.bin .eql (.t 6) (.k (.int .u8 5)))), none⟩, ⟨(some 25), (.op (.mv (.t 26))), none⟩])
  (.cond (.t 25) (.seq (.reg [⟨(some 27), (.op (.mv (.t 0))), none⟩, ⟨(some 28), (.op (.nilchk (.t 27))), none⟩, ⟨(some 29), (.op (.faddr 0 (.t 28))), none⟩, ⟨(some 30), (.op (.load (.t 29))), none⟩, ⟨(some 31), (.call (.f 61) [(.t 30)]), none⟩, ⟨(some 4), (.op (.mv (.t 31))), none⟩])
  .ret)
  (.seq (.reg [⟨(some 33), (.op (.bin .eql (.t 6) (.k (.int .u8 6)))), none⟩, ⟨(some 32), (.op (.mv (.t 33))), none⟩])
  (.cond (.t 32) (.seq (.reg [⟨(some 34), (.op (.mv (.t 0))), none⟩, ⟨(some 35), (.op (.nilchk (.t 34))), none⟩, ⟨(some 36), (.op (.faddr 0 (.t 35))), none⟩, ⟨(some 37), (.op (.load (.t 36))), none⟩, ⟨(some 38), (.call (.f 62) [(.t 37)]), none⟩, ⟨(some 4), (.op (.mv (.t 38))), none⟩])
  .ret)
  .skip))))))))))
  (.seq (.reg [⟨(some 4), (.op (.mv (.k (.int .i64 0)))), none⟩])
  .ret)))
def a48 : AF := ⟨39, [(.t 4)], .code b48, none⟩
theorem ok48 : AFOk Tryd.prog ext 48 a48 := .of Tryd.func48 (by kernel_rfl) (by kernel_rfl) (by kernel_rfl) (by kernel_rfl)
/-! 49: (*rowlock/writes.Log).Depth -/
def b49 : AC :=
  (.seq (.reg [⟨(some 2), (.op (.mv (.k (.int .i64 0)))), none⟩])
  (.seq (.seq (.reg [⟨(some 3), (.op (.mv (.t 0))), none⟩, ⟨(some 4), (.op (.eq false .ptr (.t 3) (.k (.pointer none)))), none⟩])
  (.cond (.t 4) (.seq (.reg [⟨(some 2), (.op (.mv (.k (.int .i64 0)))), none⟩])
  .ret)
  .skip))
  (.seq (.reg [⟨(some 5), (.op (.mv (.t 0))), none⟩, ⟨(some 6), (.op (.nilchk (.t 5))), none⟩, ⟨(some 7), (.op (.faddr 1 (.t 6))), none⟩, ⟨(some 8), (.op (.load (.t 7))), none⟩, ⟨(some 2), (.op (.mv (.t 8))), none⟩])
  .ret)))
def a49 : AF := ⟨9, [(.t 2)], .code b49, none⟩
theorem ok49 : AFOk Tryd.prog ext 49 a49 := .of Tryd.func49 (by kernel_rfl) (by kernel_rfl) (by kernel_rfl) (by kernel_rfl)
/-! 50: rowlock/rowlockref08.fits -/
def b50 : AC :=
  (.seq (.reg [⟨(some 4), (.op (.mv (.k (.bool false)))), none⟩])
  (.seq (.reg [⟨(some 11), (.op (.mv (.t 0))), none⟩, ⟨(some 12), (.op (.mv (.t 1))), none⟩, ⟨(some 13), (.op (.iaddrS 4 (.t 11) (.t 12))), none⟩, ⟨(some 14), (.op (.loadN 4 (.t 13))), none⟩, ⟨(some 5), (.op (.alloc 43 [(.int .u8 0), (.int .i64 0), (.int .i64 0), (.int .u64 0)])), none⟩, ⟨none, (.op (.store 4 (.t 5) (.t 14))), none⟩])
  (.seq (.seq (.reg [⟨(some 15), (.op (.faddr 1 (.t 5))), none⟩, ⟨(some 16), (.op (.load (.t 15))), none⟩, ⟨(some 17), (.op (.bin .lss (.t 16) (.k (.int .i64 0)))), none⟩, ⟨(some 18), (.op (.mv (.t 17))), none⟩, ⟨(some 19), (.op (.faddr 1 (.t 5))), (some (18, false))⟩, ⟨(some 20), (.op (.load (.t 19))), (some (18, false))⟩, ⟨(some 21), (.op (.bin .geq (.t 20) (.k (.int .i64 64)))), (some (18, false))⟩, ⟨(some 22), (.op (.pick (.t 18) (.k (.bool true)) (.t 21))), none⟩])
  (.cond (.t 22) (.seq (.reg [⟨(some 4), (.op (.mv (.k (.bool false)))), none⟩])
  .ret)
  .skip))
  (.seq (.reg [⟨(some 23), (.op (.faddr 2 (.t 5))), none⟩, ⟨(some 24), (.op (.load (.t 23))), none⟩, ⟨(some 25), (.op (.bin .eql (.t 24) (.k (.int .i64 0)))), none⟩, ⟨(some 26), (.op (.mv (.t 25))), none⟩, ⟨(some 27), (.op (.faddr 3 (.t 5))), (some (26, true))⟩, ⟨(some 28), (.op (.load (.t 27))), (some (26, true))⟩, ⟨(some 29), (.op (.bin .eql (.t 28) (.k (.int .u64 0)))), (some (26, true))⟩, ⟨(some 30), (.op (.pick (.t 26) (.t 29) (.k (.bool false)))), none⟩, ⟨(some 6), (.op (.mv (.t 30))), none⟩])
  (.seq (.reg [⟨(some 31), (.op (.mv (.t 0))), none⟩, ⟨(some 32), (.op (.mv (.t 1))), none⟩, ⟨(some 33), (.op (.faddr 1 (.t 5))), none⟩, ⟨(some 34), (.op (.load (.t 33))), none⟩, ⟨(some 35), (.call (.f 51) [(.t 31), (.t 32), (.t 34), (.k (.int .u8 1))]), none⟩, ⟨(some 7), (.op (.mv (.t 35))), none⟩])
  (.seq (.reg [⟨(some 36), (.op (.mv (.t 0))), none⟩, ⟨(some 37), (.op (.mv (.t 1))), none⟩, ⟨(some 38), (.op (.faddr 1 (.t 5))), none⟩, ⟨(some 39), (.op (.load (.t 38))), none⟩, ⟨(some 40), (.call (.f 51) [(.t 36), (.t 37), (.t 39), (.k (.int .u8 7))]), none⟩, ⟨(some 8), (.op (.mv (.t 40))), none⟩])
  (.seq (.reg [⟨(some 41), (.op (.mv (.t 0))), none⟩, ⟨(some 42), (.op (.mv (.t 1))), none⟩, ⟨(some 43), (.op (.faddr 1 (.t 5))), none⟩, ⟨(some 44), (.op (.load (.t 43))), none⟩, ⟨(some 45), (.call (.f 51) [(.t 41), (.t 42), (.t 44), (.k (.int .u8 8))]), none⟩, ⟨(some 46), (.op (.mv (.t 45))), none⟩, ⟨(some 47), (.op (.mv (.t 0))), (some (46, false))⟩, ⟨(some 48), (.op (.mv (.t 1))), (some (46, false))⟩, ⟨(some 49), (.op (.faddr 1 (.t 5))), (some (46, false))⟩, ⟨(some 50), (.op (.load (.t 49))), (some (46, false))⟩, ⟨(some 51), (.call (.f 51) [(.t 47), (.t 48), (.t 50), (.k (.int .u8 9))]), (some (46, false))⟩, ⟨(some 52), (.op (.pick (.t 46) (.k (.bool true)) (.t 51))), none⟩, ⟨(some 9), (.op (.mv (.t 52))), none⟩])
  (.seq (.seq (.reg [⟨(some 53), (.op (.faddr 0 (.t 5))), none⟩, ⟨(some 54), (.op (.load (.t 53))), none⟩, ⟨(some 55), (.op (.bin .eql (.t 54) (.k (.int .u8 1)))), none⟩])
  (.cond (.t 55) (.seq (.reg [⟨(some 56), (.op (.mv (.t 6))), none⟩, ⟨(some 57), (.op (.mv (.t 56))), none⟩, ⟨(some 58), (.op (.mv (.t 7))), (some (57, true))⟩, ⟨(some 59), (.op (.un .not (.t 58))), (some (57, true))⟩, ⟨(some 60), (.op (.pick (.t 57) (.t 59) (.k (.bool false)))), none⟩, ⟨(some 4), (.op (.mv (.t 60))), none⟩])
  .ret)
  .skip))
  (.seq (.seq (.reg [⟨(some 61), (.op (.mv (.t 7))), none⟩, ⟨(some 62), (.op (.un .not (.t 61))), none⟩, ⟨(some 63), (.op (.mv (.t 62))), none⟩, ⟨(some 64), (.op (.mv (.t 9))), (some (63, false))⟩, ⟨(some 65), (.op (.pick (.t 63) (.k (.bool true)) (.t 64))), none⟩])
  (.cond (.t 65) (.seq (.reg [⟨(some 4), (.op (.mv (.k (.bool false)))), none⟩])
  .ret)
  .skip))
  (.seq (.reg [⟨(some 66), (.op (.mv (.t 0))), none⟩, ⟨(some 67), (.op (.mv (.t 1))), none⟩, ⟨(some 68), (.op (.faddr 1 (.t 5))), none⟩, ⟨(some 69), (.op (.load (.t 68))), none⟩, ⟨(some 70), (.call (.f 63) [(.t 66), (.t 67), (.t 69)]), none⟩, ⟨(some 10), (.op (.mv (.t 70))), none⟩])
  (.seq (.seq (.reg [⟨(some 71), (.op (.faddr 0 (.t 5))), none⟩, ⟨(some 72), (.op (.load (.t 71))), none⟩])
  (.block 0 (.seq (.reg [⟨(some 74), (.op (.bin .eql (.t 72) (.k (.int .u8 8)))), none⟩, ⟨(some 73), (.op (.mv (.t 74))), none⟩])
  (.cond (.t 73) (.seq (.reg [⟨(some 75), (.op (.mv (.t 6))), none⟩, ⟨(some 76), (.op (.mv (.t 75))), none⟩, ⟨(some 77), (.op (.mv (.t 8))), (some (76, true))⟩, ⟨(some 78), (.op (.pick (.t 76) (.t 77) (.k (.bool false)))), none⟩, ⟨(some 4), (.op (.mv (.t 78))), none⟩])
  .ret)
  (.seq (.reg [⟨(some 80), (.op (.bin .eql (.t 72) (.k (.int .u8 9)))), none⟩, ⟨(some 79), (.op (.mv (.t 80))), none⟩])
  (.cond (.t 79) (.seq (.reg [⟨(some 81), (.op (.mv (.t 6))), none⟩, ⟨(some 4), (.op (.mv (.t 81))), none⟩])
  .ret)
  (.seq (.reg [⟨(some 83), (.op (.bin .eql (.t 72) (.k (.int .u8 2)))), none⟩, ⟨(some 82), (.op (.mv (.t 83))), none⟩])
  (.cond (.t 82) (.seq (.reg [⟨(some 84), (.op (.mv (.t 8))), none⟩, ⟨(some 85), (.op (.un .not (.t 84))), none⟩, ⟨(some 86), (.op (.mv (.t 85))), none⟩, ⟨(some 87), (.op (.faddr 2 (.t 5))), (some (86, true))⟩, ⟨(some 88), (.op (.load (.t 87))), (some (86, true))⟩, ⟨(some 89), (.op (.bin .geq (.t 88) (.k (.int .i64 0)))), (some (86, true))⟩, ⟨(some 90), (.op (.pick (.t 86) (.t 89) (.k (.bool false)))), none⟩, ⟨(some 91), (.op (.mv (.t 90))), none⟩, ⟨(some 92), (.op (.faddr 2 (.t 5))), (some (91, true))⟩, ⟨(some 93), (.op (.load (.t 92))), (some (91, true))⟩, ⟨(some 94), (.op (.bin .lss (.t 93) (.k (.int .i64 12)))), (some (91, true))⟩, ⟨(some 95), (.op (.pick (.t 91) (.t 94) (.k (.bool false)))), none⟩, ⟨(some 96), (.op (.mv (.t 95))), none⟩, ⟨(some 97), (.op (.faddr 3 (.t 5))), (some (96, true))⟩, ⟨(some 98), (.op (.load (.t 97))), (some (96, true))⟩, ⟨(some 99), (.call (.f 64) [(.t 98)]), (some (96, true))⟩, ⟨(some 100), (.op (.pick (.t 96) (.t 99) (.k (.bool false)))), none⟩, ⟨(some 4), (.op (.mv (.t 100))), none⟩])
  .ret)
  (.seq (.reg [⟨(some 102), (.op (.bin .eql (.t 72) (.k (.int .u8 3)))), none⟩, ⟨(some 101), (.op (.mv (.t 102))), none⟩])
  (.cond (.t 101) (.seq (.reg [⟨(some 103), (.op (.mv (.t 8))), none⟩, ⟨(some 104), (.op (.un .not (.t 103))), none⟩, ⟨(some 105), (.op (.mv (.t 104))), none⟩, ⟨(some 106), (.op (.mv (.t 10))), (some (105, true))⟩, ⟨(some 107), (.op (.loadN 4 (.t 5))), (some (105, true))⟩, ⟨(some 108), (.call (.f 65) [(.t 106), (.t 107)]), (some (105, true))⟩, ⟨(some 109), (.op (.bin .eql (.t 108) (.k (.int .i64 0)))), (some (105, true))⟩, ⟨(some 110), (.op (.pick (.t 105) (.t 109) (.k (.bool false)))), none⟩, ⟨(some 4), (.op (.mv (.t 110))), none⟩])
  .ret)
  (.seq (.seq (.reg [⟨(some 112), (.op (.bin .eql (.t 72) (.k (.int .u8 4)))), none⟩, ⟨(some 111), (.op (.mv (.t 112))), none⟩])
  (.cond (.t 111) .skip
  (.seq (.reg [⟨(some 113), (.op (.bin .eql (.t 72) (.k (.int .u8 5)))), none⟩, ⟨(some 111), (.op (.mv (.t 113))), none⟩])
  (.cond (.t 111) .skip
  (.reg [⟨(some 114), (.op (.bin .eql (.t 72) (.k (.int .u8 6)))), none⟩, ⟨(some 111), (.op (.mv (.t 114))), none⟩])))))
  (.cond (.t 111) (.seq (.reg [⟨(some 115), (.op (.mv (.t 8))), none⟩, ⟨(some 116), (.op (.un .not (.t 115))), none⟩, ⟨(some 117), (.op (.mv (.t 116))), none⟩, ⟨(some 118), (.op (.mv (.t 6))), (some (117, true))⟩, ⟨(some 119), (.op (.pick (.t 117) (.t 118) (.k (.bool false)))), none⟩, ⟨(some 120), (.op (.mv (.t 119))), none⟩, ⟨(some 121), (.op (.mv (.t 10))), (some (120, true))⟩, ⟨(some 122), (.op (.loadN 4 (.t 5))), (some (120, true))⟩, ⟨(some 123), (.call (.f 65) [(.t 121), (.t 122)]), (some (120, true))⟩, ⟨(some 124), (.op (.bin .eql (.t 123) (.k (.int .i64 0)))), (some (120, true))⟩, ⟨(some 125), (.op (.pick (.t 120) (.t 124) (.k (.bool false)))), none⟩, ⟨(some 4), (.op (.mv (.t 125))), none⟩])
  .ret)
  (.seq (.reg [⟨(some 127), (.op (.bin .eql (.t 72) (.k (.int .u8 7)))), none⟩, ⟨(some 126), (.op (.mv (.t 127))), none⟩])
  (.cond (.t 126) (.seq (.reg [⟨(some 128), (.op (.mv (.t 8))), none⟩, ⟨(some 129), (.op (.un .not (.t 128))), none⟩, ⟨(some 130), (.op (.mv (.t 129))), none⟩, ⟨(some 131), (.op (.mv (.t 6))), (some (130, true))⟩, ⟨(some 132), (.op (.pick (.t 130) (.t 131) (.k (.bool false)))), none⟩, ⟨(some 133), (.op (.mv (.t 132))), none⟩, ⟨(some 134), (.op (.mv (.t 10))), (some (133, true))⟩, ⟨(some 135), (.call (.f 66) [(.t 134)]), (some (133, true))⟩, ⟨(some 136), (.op (.bin .eql (.t 135) (.k (.int .i64 0)))), (some (133, true))⟩, ⟨(some 137), (.op (.pick (.t 133) (.t 136) (.k (.bool false)))), none⟩, ⟨(some 4), (.op (.mv (.t 137))), none⟩])
  .ret)
  .skip))))))))))))))
  (.seq (.reg [⟨(some 4), (.op (.mv (.k (.bool false)))), none⟩])
  .ret))))))))))))
def a50 : AF := ⟨138, [(.t 4)], .code b50, none⟩
theorem ok50 : AFOk Tryd.prog ext 50 a50 := .of Tryd.func50 (by kernel_rfl) (by kernel_rfl) (by kernel_rfl) (by kernel_rfl)
/-! 51: rowlock/rowlockref08.seen -/
def b51 : AC :=
  (.seq (.reg [⟨(some 8), (.op (.mv (.k (.bool false)))), none⟩])
  (.seq (.seq (.reg [⟨(some 9), (.op (.mv (.k (.int .i64 0)))), none⟩])
  (.block 0 (.loop (.seq (.seq (.reg [⟨(some 10), (.op (.mv (.t 9))), none⟩, ⟨(some 11), (.op (.mv (.t 1))), none⟩, ⟨(some 12), (.op (.bin .lss (.t 10) (.t 11))), none⟩])
   (.cond (.t 12) .skip
   (.exit 0)))
   (.seq (.block 1 (.seq (.reg [⟨(some 15), (.op (.mv (.t 0))), none⟩, ⟨(some 16), (.op (.mv (.t 9))), none⟩, ⟨(some 17), (.op (.iaddrS 4 (.t 15) (.t 16))), none⟩, ⟨(some 18), (.op (.faddr 1 (.t 17))), none⟩, ⟨(some 19), (.op (.load (.t 18))), none⟩, ⟨(some 20), (.op (.mv (.t 2))), none⟩, ⟨(some 21), (.op (.bin .eql (.t 19) (.t 20))), none⟩, ⟨(some 22), (.op (.mv (.t 21))), none⟩, ⟨(some 23), (.op (.mv (.t 0))), (some (22, true))⟩, ⟨(some 24), (.op (.mv (.t 9))), (some (22, true))⟩, ⟨(some 25), (.op (.iaddrS 4 (.t 23) (.t 24))), (some (22, true))⟩, ⟨(some 26), (.op (.faddr 0 (.t 25))), (some (22, true))⟩, ⟨(some 27), (.op (.load (.t 26))), (some (22, true))⟩, ⟨(some 28), (.op (.mv (.t 3))), (some (22, true))⟩, ⟨(some 29), (.op (.bin .eql (.t 27) (.t 28))), (some (22, true))⟩, ⟨(some 30), (.op (.pick (.t 22) (.t 29) (.k (.bool false)))), none⟩])
   (.cond (.t 30) (.seq (.reg [⟨(some 8), (.op (.mv (.k (.bool true)))), none⟩])
   .ret)
   .skip)))
   (.reg [⟨(some 13), (.op (.mv (.t 9))), none⟩, ⟨(some 14), (.op (.bin .add (.t 13) (.k (.int .i64 1)))), none⟩, ⟨(some 9), (.op (.mv (.t 14))), none⟩]))))))
  (.seq (.reg [⟨(some 8), (.op (.mv (.k (.bool false)))), none⟩])
  .ret)))
def a51 : AF := ⟨31, [(.t 8)], .code b51, none⟩
theorem ok51 : AFOk Tryd.prog ext 51 a51 := .of Tryd.func51 (by kernel_rfl) (by kernel_rfl) (by kernel_rfl) (by kernel_rfl)
/-! 52: rowlock/rowlockref08.StateOf -/
def b52 : AC :=
  (.seq (.reg [⟨(some 4), (.op (.mv (.k (.int .u8 0)))), none⟩])
  (.seq (.seq (.reg [⟨(some 7), (.op (.mv (.t 0))), none⟩, ⟨(some 8), (.op (.mv (.t 0))), none⟩, ⟨(some 9), (.op (.lenS (.t 8))), none⟩, ⟨(some 10), (.op (.mv (.t 1))), none⟩, ⟨(some 11), (.call (.f 51) [(.t 7), (.t 9), (.t 10), (.k (.int .u8 1))]), none⟩, ⟨(some 12), (.op (.un .not (.t 11))), none⟩])
  (.cond (.t 12) (.seq (.reg [⟨(some 4), (.op (.mv (.k (.int .u8 0)))), none⟩])
  .ret)
  .skip))
  (.seq (.reg [⟨(some 5), (.op (.mv (.k (.int .u8 1)))), none⟩])
  (.seq (.seq (.reg [⟨(some 6), (.op (.mv (.k (.int .i64 0)))), none⟩])
  (.block 0 (.loop (.seq (.seq (.reg [⟨(some 13), (.op (.mv (.t 6))), none⟩, ⟨(some 14), (.op (.mv (.t 0))), none⟩, ⟨(some 15), (.op (.lenS (.t 14))), none⟩, ⟨(some 16), (.op (.bin .lss (.t 13) (.t 15))), none⟩])
   (.cond (.t 16) .skip
   (.exit 0)))
   (.seq (.block 1 (.seq (.seq (.reg [⟨(some 19), (.op (.mv (.t 0))), none⟩, ⟨(some 20), (.op (.mv (.t 6))), none⟩, ⟨(some 21), (.op (.iaddrS 4 (.t 19) (.t 20))), none⟩, ⟨(some 22), (.op (.faddr 1 (.t 21))), none⟩, ⟨(some 23), (.op (.load (.t 22))), none⟩, ⟨(some 24), (.op (.mv (.t 1))), none⟩, ⟨(some 25), (.op (.bin .neq (.t 23) (.t 24))), none⟩])
   (.cond (.t 25) (.exit 1)
   .skip))
   (.seq (.reg [⟨(some 26), (.op (.mv (.t 0))), none⟩, ⟨(some 27), (.op (.mv (.t 6))), none⟩, ⟨(some 28), (.op (.iaddrS 4 (.t 26) (.t 27))), none⟩, ⟨(some 29), (.op (.faddr 0 (.t 28))), none⟩, ⟨(some 30), (.op (.load (.t 29))), none⟩])
   (.block 2 (.seq (.reg [⟨(some 32), (.op (.bin .eql (.t 30) (.k (.int .u8 7)))), none⟩, ⟨(some 31), (.op (.mv (.t 32))), none⟩])
   (.cond (.t 31) (.reg [⟨(some 5), (.op (.mv (.k (.int .u8 2)))), none⟩])
   (.seq (.reg [⟨(some 34), (.op (.bin .eql (.t 30) (.k (.int .u8 8)))), none⟩, ⟨(some 33), (.op (.mv (.t 34))), none⟩])
   (.cond (.t 33) (.reg [⟨(some 5), (.op (.mv (.k (.int .u8 3)))), none⟩])
   (.seq (.reg [⟨(some 36), (.op (.bin .eql (.t 30) (.k (.int .u8 9)))), none⟩, ⟨(some 35), (.op (.mv (.t 36))), none⟩])
   (.cond (.t 35) (.reg [⟨(some 5), (.op (.mv (.k (.int .u8 4)))), none⟩])
   .skip))))))))))
   (.reg [⟨(some 17), (.op (.mv (.t 6))), none⟩, ⟨(some 18), (.op (.bin .add (.t 17) (.k (.int .i64 1)))), none⟩, ⟨(some 6), (.op (.mv (.t 18))), none⟩]))))))
  (.seq (.reg [⟨(some 37), (.op (.mv (.t 5))), none⟩, ⟨(some 4), (.op (.mv (.t 37))), none⟩])
  .ret)))))
def a52 : AF := ⟨38, [(.t 4)], .code b52, none⟩
theorem ok52 : AFOk Tryd.prog ext 52 a52 := .of Tryd.func52 (by kernel_rfl) (by kernel_rfl) (by kernel_rfl) (by kernel_rfl)
/-! 54: rowlock/trace.word -/
def b54 : AC :=
  (.seq (.reg [⟨(some 2), (.op (.mv (.k (.string ⟨#[]⟩)))), none⟩])
  (.seq (.seq (.reg [⟨(some 3), (.op (.mv (.t 0))), none⟩])
  (.block 0 (.seq (.reg [⟨(some 5), (.op (.bin .eql (.t 3) (.k (.int .u8 1)))), none⟩, ⟨(some 4), (.op (.mv (.t 5))), none⟩])
  (.cond (.t 4) (.seq (.reg [⟨(some 2), (.op (.mv (.k (.string ⟨#[98, 101, 103, 105, 110]⟩)))), none⟩])
  .ret)
  (.seq (.reg [⟨(some 7), (.op (.bin .eql (.t 3) (.k (.int .u8 2)))), none⟩, ⟨(some 6), (.op (.mv (.t 7))), none⟩])
  (.cond (.t 6) (.seq (.reg [⟨(some 2), (.op (.mv (.k (.string ⟨#[114, 101, 97, 100]⟩)))), none⟩])
  .ret)
  (.seq (.reg [⟨(some 9), (.op (.bin .eql (.t 3) (.k (.int .u8 3)))), none⟩, ⟨(some 8), (.op (.mv (.t 9))), none⟩])
  (.cond (.t 8) (.seq (.reg [⟨(some 2), (.op (.mv (.k (.string ⟨#[119, 114, 105, 116, 101]⟩)))), none⟩])
  .ret)
  (.seq (.reg [⟨(some 11), (.op (.bin .eql (.t 3) (.k (.int .u8 4)))), none⟩, ⟨(some 10), (.op (.mv (.t 11))), none⟩])
  (.cond (.t 10) (.seq (.reg [⟨(some 2), (.op (.mv (.k (.string ⟨#[112, 117, 115, 104]⟩)))), none⟩])
  .ret)
  (.seq (.reg [⟨(some 13), (.op (.bin .eql (.t 3) (.k (.int .u8 5)))), none⟩, ⟨(some 12), (.op (.mv (.t 13))), none⟩])
  (.cond (.t 12) (.seq (.reg [⟨(some 2), (.op (.mv (.k (.string ⟨#[100, 114, 111, 112]⟩)))), none⟩])
  .ret)
  (.seq (.reg [⟨(some 15), (.op (.bin .eql (.t 3) (.k (.int .u8 6)))), none⟩, ⟨(some 14), (.op (.mv (.t 15))), none⟩])
  (.cond (.t 14) (.seq (.reg [⟨(some 2), (.op (.mv (.k (.string ⟨#[109, 101, 114, 103, 101]⟩)))), none⟩])
  .ret)
  (.seq (.reg [⟨(some 17), (.op (.bin .eql (.t 3) (.k (.int .u8 7)))), none⟩, ⟨(some 16), (.op (.mv (.t 17))), none⟩])
  (.cond (.t 16) (.seq (.reg [⟨(some 2), (.op (.mv (.k (.string ⟨#[116, 114, 121]⟩)))), none⟩])
  .ret)
  (.seq (.reg [⟨(some 19), (.op (.bin .eql (.t 3) (.k (.int .u8 8)))), none⟩, ⟨(some 18), (.op (.mv (.t 19))), none⟩])
  (.cond (.t 18) (.seq (.reg [⟨(some 2), (.op (.mv (.k (.string ⟨#[99, 111, 109, 109, 105, 116]⟩)))), none⟩])
  .ret)
  (.seq (.reg [⟨(some 21), (.op (.bin .eql (.t 3) (.k (.int .u8 9)))), none⟩, ⟨(some 20), (.op (.mv (.t 21))), none⟩])
  (.cond (.t 20) (.seq (.reg [⟨(some 2), (.op (.mv (.k (.string ⟨#[97, 98, 111, 114, 116]⟩)))), none⟩])
  .ret)
  .skip))))))))))))))))))))
  (.seq (.reg [⟨(some 2), (.op (.mv (.k (.string ⟨#[]⟩)))), none⟩])
  .ret)))
def a54 : AF := ⟨22, [(.t 2)], .code b54, none⟩
theorem ok54 : AFOk Tryd.prog ext 54 a54 := .of Tryd.func54 (by kernel_rfl) (by kernel_rfl) (by kernel_rfl) (by kernel_rfl)
/-! 56: rowlock/value.Hex -/
def b56 : AC :=
  (.seq (.reg [⟨(some 2), (.op (.mv (.k (.string ⟨#[]⟩)))), none⟩])
  (.seq (.reg [⟨(some 5), (.op (.mv (.t 0))), none⟩, ⟨(some 6), (.call (.f 69) [(.t 5)]), none⟩, ⟨(some 0), (.op (.mv (.t 6))), none⟩])
  (.seq (.reg [⟨(some 3), (.op (.alloc 109 [(.int .u8 0), (.int .u8 0), (.int .u8 0), (.int .u8 0), (.int .u8 0), (.int .u8 0), (.int .u8 0), (.int .u8 0), (.int .u8 0), (.int .u8 0), (.int .u8 0), (.int .u8 0), (.int .u8 0), (.int .u8 0), (.int .u8 0), (.int .u8 0)])), none⟩])
  (.seq (.seq (.reg [⟨(some 7), (.op (.mv (.k (.int .i64 0)))), none⟩])
  (.block 0 (.loop (.seq (.reg [⟨(some 8), (.op (.bin .lss (.t 7) (.k (.int .i64 16)))), none⟩])
   (.seq (.cond (.t 8) .skip
   (.exit 0))
   (.seq (.block 1 (.seq (.reg [⟨(some 9), (.op (.mv (.t 7))), none⟩, ⟨(some 4), (.op (.mv (.t 9))), none⟩])
   (.reg [⟨(some 10), (.op (.mv (.t 4))), none⟩, ⟨(some 11), (.op (.mv (.t 0))), none⟩, ⟨(some 12), (.op (.mv (.t 4))), none⟩, ⟨(some 13), (.op (.bin .mul (.k (.int .i64 4)) (.t 12))), none⟩, ⟨(some 14), (.op (.bin .sub (.k (.int .i64 60)) (.t 13))), none⟩, ⟨(some 15), (.op (.bin .shr (.t 11) (.t 14))), none⟩, ⟨(some 16), (.op (.bin .and (.t 15) (.k (.int .u64 15)))), none⟩, ⟨(some 17), (.op (.indexS (.k (.string ⟨#[48, 49, 50, 51, 52, 53, 54, 55, 56, 57, 97, 98, 99, 100, 101, 102]⟩)) (.t 16))), none⟩, ⟨(some 18), (.op (.iaddrA 16 1 (.t 3) (.t 10))), none⟩, ⟨none, (.op (.store 1 (.t 18) (.t 17))), none⟩])))
   (.reg [⟨(some 19), (.op (.bin .add (.t 7) (.k (.int .i64 1)))), none⟩, ⟨(some 7), (.op (.mv (.t 19))), none⟩])))))))
  (.seq (.reg [⟨(some 20), (.op (.sliceA 16 1 (.t 3) none none)), none⟩, ⟨(some 21), (.op (.tostr (.t 20))), none⟩, ⟨(some 2), (.op (.mv (.t 21))), none⟩])
  .ret)))))
def a56 : AF := ⟨22, [(.t 2)], .code b56, none⟩
theorem ok56 : AFOk Tryd.prog ext 56 a56 := .of Tryd.func56 (by kernel_rfl) (by kernel_rfl) (by kernel_rfl) (by kernel_rfl)
/-! 58: (*rowlock/writes.stack[rowlock/writes.frame]).push -/
def b58 : AC :=
  (.seq (.reg [⟨(some 4), (.op (.mv (.k (.pointer none)))), none⟩])
  (.seq (.reg [⟨(some 5), (.op (.mv (.t 1))), none⟩, ⟨(some 6), (.op (.mv (.t 0))), none⟩, ⟨(some 7), (.op (.build [(.slice none 0 0), (.pointer none)] [(0, 1, (.t 5)), (1, 1, (.t 6))])), none⟩, ⟨(some 8), (.op (.box 112 (.t 7))), none⟩, ⟨(some 4), (.op (.mv (.t 8))), none⟩])
  .ret))
def a58 : AF := ⟨9, [(.t 4)], .code b58, none⟩
theorem ok58 : AFOk Tryd.prog ext 58 a58 := .of Tryd.func58 (by kernel_rfl) (by kernel_rfl) (by kernel_rfl) (by kernel_rfl)
/-! 59: (*rowlock/writes.Log).Put -/
def b59 : AC :=
  (.seq (.reg [⟨(some 6), (.op (.mv (.k (.int .i64 0)))), none⟩])
  (.seq (.block 0 (.seq (.reg [⟨(some 10), (.op (.mv (.t 0))), none⟩, ⟨(some 11), (.op (.eq false .ptr (.t 10) (.k (.pointer none)))), none⟩, ⟨(some 9), (.op (.mv (.t 11))), none⟩])
  (.cond (.t 9) (.seq (.reg [⟨(some 6), (.op (.mv (.k (.int .i64 1)))), none⟩])
  .ret)
  (.seq (.reg [⟨(some 13), (.op (.mv (.t 1))), none⟩, ⟨(some 14), (.op (.bin .lss (.t 13) (.k (.int .i64 0)))), none⟩, ⟨(some 15), (.op (.mv (.t 14))), none⟩, ⟨(some 16), (.op (.mv (.t 1))), (some (15, false))⟩, ⟨(some 17), (.op (.bin .geq (.t 16) (.k (.int .i64 12)))), (some (15, false))⟩, ⟨(some 18), (.op (.pick (.t 15) (.k (.bool true)) (.t 17))), none⟩, ⟨(some 12), (.op (.mv (.t 18))), none⟩])
  (.cond (.t 12) (.seq (.reg [⟨(some 6), (.op (.mv (.k (.int .i64 2)))), none⟩])
  .ret)
  (.seq (.reg [⟨(some 20), (.op (.mv (.t 2))), none⟩, ⟨(some 21), (.call (.f 47) [(.t 20)]), none⟩, ⟨(some 22), (.op (.un .not (.t 21))), none⟩, ⟨(some 19), (.op (.mv (.t 22))), none⟩])
  (.cond (.t 19) (.seq (.reg [⟨(some 6), (.op (.mv (.k (.int .i64 3)))), none⟩])
  .ret)
  .skip)))))))
  (.seq (.seq (.reg [⟨(some 24), (.op (.mv (.t 0))), none⟩, ⟨(some 25), (.op (.nilchk (.t 24))), none⟩, ⟨(some 26), (.op (.faddr 0 (.t 25))), none⟩, ⟨(some 27), (.op (.load (.t 26))), none⟩, ⟨(some 28), (.op (.nilchk (.t 27))), none⟩, ⟨(some 29), (.op (.faddr 0 (.t 28))), none⟩, ⟨(some 30), (.op (.load (.t 29))), none⟩, ⟨(some 31), (.op (.mv (.t 1))), none⟩, ⟨(some 32), (.call (.f 71) [(.t 30), (.t 31)]), none⟩, ⟨(some 23), (.op (.mv (.t 32))), none⟩, ⟨(some 33), (.op (.extract (.t 23) 0)), none⟩, ⟨(some 34), (.op (.extract (.t 23) 1)), none⟩, ⟨(some 7), (.op (.mv (.t 33))), none⟩, ⟨(some 8), (.op (.mv (.t 34))), none⟩])
  (.seq (.reg [⟨(some 35), (.op (.mv (.t 8))), none⟩, ⟨(some 36), (.op (.un .not (.t 35))), none⟩, ⟨(some 37), (.op (.mv (.t 36))), none⟩, ⟨(some 38), (.op (.mv (.t 0))), (some (37, true))⟩, ⟨(some 39), (.call (.f 72) [(.t 38)]), (some (37, true))⟩, ⟨(some 40), (.op (.bin .geq (.t 39) (.k (.int .i64 16)))), (some (37, true))⟩, ⟨(some 41), (.op (.pick (.t 37) (.t 40) (.k (.bool false)))), none⟩])
  (.cond (.t 41) (.seq (.reg [⟨(some 6), (.op (.mv (.k (.int .i64 4)))), none⟩])
  .ret)
  .skip)))
  (.seq (.dreg (.quiet ⟨(some 42), (.op (.mv (.t 0))), none⟩ (.quiet ⟨(some 43), (.op (.mv (.t 0))), none⟩ (.quiet ⟨(some 44), (.op (.nilchk (.t 43))), none⟩ (.quiet ⟨(some 45), (.op (.faddr 0 (.t 44))), none⟩ (.quiet ⟨(some 46), (.op (.load (.t 45))), none⟩ (.quiet ⟨(some 47), (.op (.nilchk (.t 46))), none⟩ (.quiet ⟨(some 48), (.op (.faddr 1 (.t 47))), none⟩ (.quiet ⟨(some 49), (.op (.load (.t 48))), none⟩ (.quiet ⟨(some 50), (.op (.mv (.t 0))), none⟩ (.quiet ⟨(some 51), (.op (.nilchk (.t 50))), none⟩ (.quiet ⟨(some 52), (.op (.faddr 0 (.t 51))), none⟩ (.quiet ⟨(some 53), (.op (.load (.t 52))), none⟩ (.quiet ⟨(some 54), (.op (.nilchk (.t 53))), none⟩ (.quiet ⟨(some 55), (.op (.faddr 0 (.t 54))), none⟩ (.quiet ⟨(some 56), (.op (.load (.t 55))), none⟩ (.quiet ⟨(some 57), (.op (.mv (.t 1))), none⟩ (.quiet ⟨(some 58), (.op (.mv (.t 2))), none⟩ (.quiet ⟨(some 59), (.op (.build [(.int .i64 0), (.int .u64 0)] [(0, 1, (.t 57)), (1, 1, (.t 58))])), none⟩ (.loud ⟨(some 60), (.call (.f 73) [(.t 56), (.t 59)]), none⟩ [⟨(some 49), (.op (.load (.t 48))), none⟩, ⟨(some 46), (.op (.load (.t 45))), none⟩] (.loud ⟨(some 61), (.call (.f 58) [(.t 49), (.t 60)]), none⟩ [] (.quiet ⟨(some 62), (.op (.nilchk (.t 42))), none⟩ (.quiet ⟨(some 63), (.op (.faddr 0 (.t 62))), none⟩ (.loud ⟨none, (.op (.store 1 (.t 63) (.t 61))), none⟩ [] .nil))))))))))))))))))))))))
  (.seq (.reg [⟨(some 6), (.op (.mv (.k (.int .i64 0)))), none⟩])
  .ret)))))
def a59 : AF := ⟨64, [(.t 6)], .code b59, none⟩
theorem ok59 : AFOk Tryd.prog ext 59 a59 := .of Tryd.func59 (by kernel_rfl) (by kernel_rfl) (by kernel_rfl) (by kernel_rfl)
/-! 60: (*rowlock/writes.Log).Push -/
def b60 : AC :=
  (.seq (.reg [⟨(some 2), (.op (.mv (.k (.int .i64 0)))), none⟩])
  (.seq (.block 0 (.seq (.reg [⟨(some 4), (.op (.mv (.t 0))), none⟩, ⟨(some 5), (.op (.eq false .ptr (.t 4) (.k (.pointer none)))), none⟩, ⟨(some 3), (.op (.mv (.t 5))), none⟩])
  (.cond (.t 3) (.seq (.reg [⟨(some 2), (.op (.mv (.k (.int .i64 1)))), none⟩])
  .ret)
  (.seq (.reg [⟨(some 7), (.op (.mv (.t 0))), none⟩, ⟨(some 8), (.op (.nilchk (.t 7))), none⟩, ⟨(some 9), (.op (.faddr 1 (.t 8))), none⟩, ⟨(some 10), (.op (.load (.t 9))), none⟩, ⟨(some 11), (.op (.bin .geq (.t 10) (.k (.int .i64 4)))), none⟩, ⟨(some 6), (.op (.mv (.t 11))), none⟩])
  (.cond (.t 6) (.seq (.reg [⟨(some 2), (.op (.mv (.k (.int .i64 4)))), none⟩])
  .ret)
  .skip)))))
  (.seq (.reg [⟨(some 12), (.op (.mv (.t 0))), none⟩, ⟨(some 13), (.op (.mv (.t 0))), none⟩, ⟨(some 14), (.op (.nilchk (.t 13))), none⟩, ⟨(some 15), (.op (.faddr 0 (.t 14))), none⟩, ⟨(some 16), (.op (.load (.t 15))), none⟩, ⟨(some 17), (.call (.f 58) [(.t 16), (.k (.slice none 0 0))]), none⟩, ⟨(some 18), (.op (.nilchk (.t 12))), none⟩, ⟨(some 19), (.op (.faddr 0 (.t 18))), none⟩, ⟨none, (.op (.store 1 (.t 19) (.t 17))), none⟩])
  (.seq (.reg [⟨(some 20), (.op (.mv (.t 0))), none⟩, ⟨(some 21), (.op (.nilchk (.t 20))), none⟩, ⟨(some 22), (.op (.faddr 1 (.t 21))), none⟩, ⟨(some 23), (.op (.load (.t 22))), none⟩, ⟨(some 24), (.op (.bin .add (.t 23) (.k (.int .i64 1)))), none⟩, ⟨(some 25), (.op (.nilchk (.t 20))), none⟩, ⟨(some 26), (.op (.faddr 1 (.t 25))), none⟩, ⟨none, (.op (.store 1 (.t 26) (.t 24))), none⟩])
  (.seq (.reg [⟨(some 2), (.op (.mv (.k (.int .i64 0)))), none⟩])
  .ret)))))
def a60 : AF := ⟨27, [(.t 2)], .code b60, none⟩
theorem ok60 : AFOk Tryd.prog ext 60 a60 := .of Tryd.func60 (by kernel_rfl) (by kernel_rfl) (by kernel_rfl) (by kernel_rfl)
/-! 61: (*rowlock/writes.Log).Drop -/
def b61 : AC :=
  (.seq (.reg [⟨(some 2), (.op (.mv (.k (.int .i64 0)))), none⟩])
  (.seq (.reg [⟨(some 6), (.op (.mv (.t 0))), none⟩, ⟨(some 7), (.call (.f 74) [(.t 6)]), none⟩, ⟨(some 5), (.op (.mv (.t 7))), none⟩, ⟨(some 8), (.op (.extract (.t 5) 0)), none⟩, ⟨(some 9), (.op (.extract (.t 5) 1)), none⟩, ⟨(some 3), (.op (.mv (.t 8))), none⟩, ⟨(some 4), (.op (.mv (.t 9))), none⟩])
  (.seq (.reg [⟨(some 10), (.op (.mv (.t 4))), none⟩, ⟨(some 2), (.op (.mv (.t 10))), none⟩])
  .ret)))
def a61 : AF := ⟨11, [(.t 2)], .code b61, none⟩
theorem ok61 : AFOk Tryd.prog ext 61 a61 := .of Tryd.func61 (by kernel_rfl) (by kernel_rfl) (by kernel_rfl) (by kernel_rfl)
/-! 62: (*rowlock/writes.Log).Merge -/
def b62 : AC :=
  (.seq (.reg [⟨(some 2), (.op (.mv (.k (.int .i64 0)))), none⟩])
  (.seq (.reg [⟨(some 9), (.op (.mv (.t 0))), none⟩, ⟨(some 10), (.call (.f 74) [(.t 9)]), none⟩, ⟨(some 8), (.op (.mv (.t 10))), none⟩, ⟨(some 11), (.op (.extract (.t 8) 0)), none⟩, ⟨(some 12), (.op (.extract (.t 8) 1)), none⟩, ⟨(some 3), (.op (.mv (.t 11))), none⟩, ⟨(some 4), (.op (.mv (.t 12))), none⟩])
  (.seq (.seq (.reg [⟨(some 13), (.op (.mv (.t 4))), none⟩, ⟨(some 14), (.op (.bin .neq (.t 13) (.k (.int .i64 0)))), none⟩])
  (.cond (.t 14) (.seq (.reg [⟨(some 15), (.op (.mv (.t 4))), none⟩, ⟨(some 2), (.op (.mv (.t 15))), none⟩])
  .ret)
  .skip))
  (.seq (.reg [⟨(some 16), (.op (.mv (.t 0))), none⟩, ⟨(some 17), (.op (.nilchk (.t 16))), none⟩, ⟨(some 18), (.op (.faddr 0 (.t 17))), none⟩, ⟨(some 19), (.op (.load (.t 18))), none⟩, ⟨(some 20), (.op (.nilchk (.t 19))), none⟩, ⟨(some 21), (.op (.faddr 0 (.t 20))), none⟩, ⟨(some 22), (.op (.load (.t 21))), none⟩, ⟨(some 5), (.op (.mv (.t 22))), none⟩])
  (.seq (.seq (.reg [⟨(some 23), (.op (.mv (.t 3))), none⟩, ⟨(some 24), (.op (.lenS (.t 23))), none⟩, ⟨(some 25), (.op (.mv (.k (.int .i64 0)))), none⟩])
  (.block 0 (.loop (.seq (.reg [⟨(some 26), (.op (.bin .lss (.t 25) (.t 24))), none⟩])
   (.seq (.cond (.t 26) .skip
   (.exit 0))
   (.seq (.block 1 (.seq (.reg [⟨(some 27), (.op (.iaddrS 2 (.t 23) (.t 25))), none⟩, ⟨(some 28), (.op (.loadN 2 (.t 27))), none⟩, ⟨(some 7), (.op (.alloc 117 [(.int .i64 0), (.int .u64 0)])), none⟩, ⟨none, (.op (.store 2 (.t 7) (.t 28))), none⟩])
   (.reg [⟨(some 29), (.op (.mv (.t 5))), none⟩, ⟨(some 30), (.op (.loadN 2 (.t 7))), none⟩, ⟨(some 31), (.call (.f 73) [(.t 29), (.t 30)]), none⟩, ⟨(some 5), (.op (.mv (.t 31))), none⟩])))
   (.reg [⟨(some 32), (.op (.bin .add (.t 25) (.k (.int .i64 1)))), none⟩, ⟨(some 25), (.op (.mv (.t 32))), none⟩])))))))
  (.seq (.reg [⟨(some 33), (.op (.mv (.t 0))), none⟩, ⟨(some 34), (.op (.mv (.t 0))), none⟩, ⟨(some 35), (.op (.nilchk (.t 34))), none⟩, ⟨(some 36), (.op (.faddr 0 (.t 35))), none⟩, ⟨(some 37), (.op (.load (.t 36))), none⟩, ⟨(some 38), (.op (.nilchk (.t 37))), none⟩, ⟨(some 39), (.op (.faddr 1 (.t 38))), none⟩, ⟨(some 40), (.op (.load (.t 39))), none⟩, ⟨(some 41), (.op (.mv (.t 5))), none⟩, ⟨(some 42), (.call (.f 58) [(.t 40), (.t 41)]), none⟩, ⟨(some 43), (.op (.nilchk (.t 33))), none⟩, ⟨(some 44), (.op (.faddr 0 (.t 43))), none⟩, ⟨none, (.op (.store 1 (.t 44) (.t 42))), none⟩])
  (.seq (.reg [⟨(some 2), (.op (.mv (.k (.int .i64 0)))), none⟩])
  .ret)))))))
def a62 : AF := ⟨45, [(.t 2)], .code b62, none⟩
theorem ok62 : AFOk Tryd.prog ext 62 a62 := .of Tryd.func62 (by kernel_rfl) (by kernel_rfl) (by kernel_rfl) (by kernel_rfl)
/-! 63: rowlock/rowlockref08.own -/
def b63 : AC :=
  (.seq (.reg [⟨(some 6), (.op (.mv (.k (.pointer none)))), none⟩])
  (.seq (.reg [⟨(some 9), (.call (.f 75) []), none⟩, ⟨(some 7), (.op (.mv (.t 9))), none⟩])
  (.seq (.seq (.reg [⟨(some 8), (.op (.mv (.k (.int .i64 0)))), none⟩])
  (.block 0 (.loop (.seq (.seq (.reg [⟨(some 10), (.op (.mv (.t 8))), none⟩, ⟨(some 11), (.op (.mv (.t 1))), none⟩, ⟨(some 12), (.op (.bin .lss (.t 10) (.t 11))), none⟩])
   (.cond (.t 12) .skip
   (.exit 0)))
   (.seq (.block 1 (.seq (.reg [⟨(some 15), (.op (.mv (.t 0))), none⟩, ⟨(some 16), (.op (.mv (.t 8))), none⟩, ⟨(some 17), (.op (.iaddrS 4 (.t 15) (.t 16))), none⟩, ⟨(some 18), (.op (.faddr 1 (.t 17))), none⟩, ⟨(some 19), (.op (.load (.t 18))), none⟩, ⟨(some 20), (.op (.mv (.t 2))), none⟩, ⟨(some 21), (.op (.bin .eql (.t 19) (.t 20))), none⟩])
   (.cond (.t 21) (.reg [⟨(some 22), (.op (.mv (.t 7))), none⟩, ⟨(some 23), (.op (.mv (.t 0))), none⟩, ⟨(some 24), (.op (.mv (.t 8))), none⟩, ⟨(some 25), (.op (.iaddrS 4 (.t 23) (.t 24))), none⟩, ⟨(some 26), (.op (.loadN 4 (.t 25))), none⟩, ⟨(some 27), (.call (.f 65) [(.t 22), (.t 26)]), none⟩])
   .skip)))
   (.reg [⟨(some 13), (.op (.mv (.t 8))), none⟩, ⟨(some 14), (.op (.bin .add (.t 13) (.k (.int .i64 1)))), none⟩, ⟨(some 8), (.op (.mv (.t 14))), none⟩]))))))
  (.seq (.reg [⟨(some 28), (.op (.mv (.t 7))), none⟩, ⟨(some 6), (.op (.mv (.t 28))), none⟩])
  .ret))))
def a63 : AF := ⟨29, [(.t 6)], .code b63, none⟩
theorem ok63 : AFOk Tryd.prog ext 63 a63 := .of Tryd.func63 (by kernel_rfl) (by kernel_rfl) (by kernel_rfl) (by kernel_rfl)
/-! 64: rowlock/rowlockref01.Right -/
def b64 : AC :=
  (.seq (.reg [⟨(some 2), (.op (.mv (.k (.bool false)))), none⟩])
  (.seq (.reg [⟨(some 4), (.op (.mv (.t 0))), none⟩, ⟨(some 5), (.op (.frombits (.t 4))), none⟩, ⟨(some 3), (.op (.mv (.t 5))), none⟩])
  (.seq (.reg [⟨(some 6), (.op (.mv (.t 3))), none⟩, ⟨(some 7), (.op (.mv (.t 3))), none⟩, ⟨(some 8), (.op (.bin .eql (.t 6) (.t 7))), none⟩, ⟨(some 9), (.op (.mv (.t 8))), none⟩, ⟨(some 10), (.op (.mv (.t 0))), (some (9, false))⟩, ⟨(some 11), (.op (.bin .eql (.t 10) (.k (.int .u64 9221120237041090560)))), (some (9, false))⟩, ⟨(some 12), (.op (.pick (.t 9) (.k (.bool true)) (.t 11))), none⟩, ⟨(some 2), (.op (.mv (.t 12))), none⟩])
  .ret)))
def a64 : AF := ⟨13, [(.t 2)], .code b64, none⟩
theorem ok64 : AFOk Tryd.prog ext 64 a64 := .of Tryd.func64 (by kernel_rfl) (by kernel_rfl) (by kernel_rfl) (by kernel_rfl)
/-! 65: rowlock/rowlockref08.act -/
def b65 : AC :=
  (.seq (.reg [⟨(some 3), (.op (.box 43 (.t 1))), none⟩, ⟨(some 4), (.op (.mv (.k (.int .i64 0)))), none⟩])
  (.seq (.seq (.reg [⟨(some 5), (.op (.faddr 0 (.t 3))), none⟩, ⟨(some 6), (.op (.load (.t 5))), none⟩])
  (.block 0 (.seq (.reg [⟨(some 8), (.op (.bin .eql (.t 6) (.k (.int .u8 3)))), none⟩, ⟨(some 7), (.op (.mv (.t 8))), none⟩])
  (.cond (.t 7) (.seq (.reg [⟨(some 9), (.op (.mv (.t 0))), none⟩, ⟨(some 10), (.op (.faddr 2 (.t 3))), none⟩, ⟨(some 11), (.op (.load (.t 10))), none⟩, ⟨(some 12), (.op (.faddr 3 (.t 3))), none⟩, ⟨(some 13), (.op (.load (.t 12))), none⟩, ⟨(some 14), (.call (.f 77) [(.t 9), (.t 11), (.t 13)]), none⟩, ⟨(some 4), (.op (.mv (.t 14))), none⟩])
  .ret)
  (.seq (.reg [⟨(some 16), (.op (.bin .eql (.t 6) (.k (.int .u8 4)))), none⟩, ⟨(some 15), (.op (.mv (.t 16))), none⟩])
  (.cond (.t 15) (.seq (.reg [⟨(some 17), (.op (.mv (.t 0))), none⟩, ⟨(some 18), (.call (.f 78) [(.t 17)]), none⟩, ⟨(some 4), (.op (.mv (.t 18))), none⟩])
  .ret)
  (.seq (.reg [⟨(some 20), (.op (.bin .eql (.t 6) (.k (.int .u8 5)))), none⟩, ⟨(some 19), (.op (.mv (.t 20))), none⟩])
  (.cond (.t 19) (.seq (.reg [⟨(some 21), (.op (.mv (.t 0))), none⟩, ⟨(some 22), (.call (.f 79) [(.t 21)]), none⟩, ⟨(some 4), (.op (.mv (.t 22))), none⟩])
  .ret)
  (.seq (.reg [⟨(some 24), (.op (.bin .eql (.t 6) (.k (.int .u8 6)))), none⟩, ⟨(some 23), (.op (.mv (.t 24))), none⟩])
  (.cond (.t 23) (.seq (.reg [⟨(some 25), (.op (.mv (.t 0))), none⟩, ⟨(some 26), (.call (.f 80) [(.t 25)]), none⟩, ⟨(some 4), (.op (.mv (.t 26))), none⟩])
  .ret)
  .skip))))))))))
  (.seq (.reg [⟨(some 4), (.op (.mv (.k (.int .i64 0)))), none⟩])
  .ret)))
def a65 : AF := ⟨27, [(.t 4)], .code b65, none⟩
theorem ok65 : AFOk Tryd.prog ext 65 a65 := .of Tryd.func65 (by kernel_rfl) (by kernel_rfl) (by kernel_rfl) (by kernel_rfl)
/-! 66: (*rowlock/rowlockref07.Log).Depth -/
def b66 : AC :=
  (.seq (.reg [⟨(some 2), (.op (.mv (.k (.int .i64 0)))), none⟩])
  (.seq (.seq (.reg [⟨(some 3), (.op (.mv (.t 0))), none⟩, ⟨(some 4), (.op (.eq false .ptr (.t 3) (.k (.pointer none)))), none⟩])
  (.cond (.t 4) (.seq (.reg [⟨(some 2), (.op (.mv (.k (.int .i64 0)))), none⟩])
  .ret)
  .skip))
  (.seq (.reg [⟨(some 5), (.op (.mv (.t 0))), none⟩, ⟨(some 6), (.op (.nilchk (.t 5))), none⟩, ⟨(some 7), (.op (.faddr 0 (.t 6))), none⟩, ⟨(some 8), (.op (.load (.t 7))), none⟩, ⟨(some 9), (.op (.lenS (.t 8))), none⟩, ⟨(some 10), (.op (.bin .sub (.t 9) (.k (.int .i64 1)))), none⟩, ⟨(some 2), (.op (.mv (.t 10))), none⟩])
  .ret)))
def a66 : AF := ⟨11, [(.t 2)], .code b66, none⟩
theorem ok66 : AFOk Tryd.prog ext 66 a66 := .of Tryd.func66 (by kernel_rfl) (by kernel_rfl) (by kernel_rfl) (by kernel_rfl)
/-! 69: rowlock/value.Canon -/
def b69 : AC :=
  (.seq (.reg [⟨(some 2), (.op (.mv (.k (.int .u64 0)))), none⟩])
  (.seq (.seq (.reg [⟨(some 3), (.op (.mv (.t 0))), none⟩, ⟨(some 4), (.call (.f 47) [(.t 3)]), none⟩])
  (.cond (.t 4) (.seq (.reg [⟨(some 5), (.op (.mv (.t 0))), none⟩, ⟨(some 2), (.op (.mv (.t 5))), none⟩])
  .ret)
  .skip))
  (.seq (.reg [⟨(some 2), (.op (.mv (.k (.int .u64 9221120237041090560)))), none⟩])
  .ret)))
def a69 : AF := ⟨6, [(.t 2)], .code b69, none⟩
theorem ok69 : AFOk Tryd.prog ext 69 a69 := .of Tryd.func69 (by kernel_rfl) (by kernel_rfl) (by kernel_rfl) (by kernel_rfl)
/-! 71: (rowlock/writes.frame).get -/
def b71 : AC :=
  (.seq (.reg [⟨(some 4), (.op (.mv (.k (.int .u64 0)))), none⟩, ⟨(some 5), (.op (.mv (.k (.bool false)))), none⟩])
  (.seq (.seq (.reg [⟨(some 8), (.op (.mv (.t 0))), none⟩, ⟨(some 9), (.op (.lenS (.t 8))), none⟩, ⟨(some 10), (.op (.mv (.k (.int .i64 0)))), none⟩])
  (.block 0 (.loop (.seq (.reg [⟨(some 11), (.op (.bin .lss (.t 10) (.t 9))), none⟩])
   (.seq (.cond (.t 11) .skip
   (.exit 0))
   (.seq (.block 1 (.seq (.reg [⟨(some 12), (.op (.iaddrS 2 (.t 8) (.t 10))), none⟩, ⟨(some 13), (.op (.loadN 2 (.t 12))), none⟩, ⟨(some 7), (.op (.alloc 117 [(.int .i64 0), (.int .u64 0)])), none⟩, ⟨none, (.op (.store 2 (.t 7) (.t 13))), none⟩])
   (.seq (.reg [⟨(some 14), (.op (.faddr 0 (.t 7))), none⟩, ⟨(some 15), (.op (.load (.t 14))), none⟩, ⟨(some 16), (.op (.mv (.t 1))), none⟩, ⟨(some 17), (.op (.bin .eql (.t 15) (.t 16))), none⟩])
   (.cond (.t 17) (.seq (.reg [⟨(some 18), (.op (.faddr 1 (.t 7))), none⟩, ⟨(some 19), (.op (.load (.t 18))), none⟩, ⟨(some 4), (.op (.mv (.t 19))), none⟩, ⟨(some 5), (.op (.mv (.k (.bool true)))), none⟩])
   .ret)
   .skip))))
   (.reg [⟨(some 20), (.op (.bin .add (.t 10) (.k (.int .i64 1)))), none⟩, ⟨(some 10), (.op (.mv (.t 20))), none⟩])))))))
  (.seq (.reg [⟨(some 4), (.op (.mv (.k (.int .u64 0)))), none⟩, ⟨(some 5), (.op (.mv (.k (.bool false)))), none⟩])
  .ret)))
def a71 : AF := ⟨21, [(.t 4), (.t 5)], .code b71, none⟩
theorem ok71 : AFOk Tryd.prog ext 71 a71 := .of Tryd.func71 (by kernel_rfl) (by kernel_rfl) (by kernel_rfl) (by kernel_rfl)
/-! 72: (*rowlock/writes.Log).Len -/
def b72 : AC :=
  (.seq (.reg [⟨(some 2), (.op (.mv (.k (.int .i64 0)))), none⟩])
  (.seq (.seq (.reg [⟨(some 5), (.op (.mv (.t 0))), none⟩, ⟨(some 6), (.op (.eq false .ptr (.t 5) (.k (.pointer none)))), none⟩])
  (.cond (.t 6) (.seq (.reg [⟨(some 2), (.op (.mv (.k (.int .i64 0)))), none⟩])
  .ret)
  .skip))
  (.seq (.reg [⟨(some 3), (.op (.alloc 3 [(.int .i64 0)])), none⟩, ⟨none, (.op (.store 1 (.t 3) (.k (.int .i64 0)))), none⟩])
  (.seq (.seq (.reg [⟨(some 7), (.op (.mv (.t 0))), none⟩, ⟨(some 8), (.op (.nilchk (.t 7))), none⟩, ⟨(some 9), (.op (.faddr 0 (.t 8))), none⟩, ⟨(some 10), (.op (.load (.t 9))), none⟩, ⟨(some 11), (.call (.f 83) [(.t 10)]), none⟩])
  (.block 0 (.rfunc (.t 11) [12] (.reg [⟨(some 4), (.op (.mv (.t 12))), none⟩])
   (.block 1 (.reg [⟨(some 13), (.op (.load (.t 3))), none⟩, ⟨(some 14), (.op (.mv (.t 4))), none⟩, ⟨(some 15), (.op (.lenS (.t 14))), none⟩, ⟨(some 16), (.op (.bin .add (.t 13) (.t 15))), none⟩, ⟨none, (.op (.store 1 (.t 3) (.t 16))), none⟩])))))
  (.seq (.reg [⟨(some 17), (.op (.load (.t 3))), none⟩, ⟨(some 2), (.op (.mv (.t 17))), none⟩])
  .ret)))))
def a72 : AF := ⟨18, [(.t 2)], .code b72, none⟩
theorem ok72 : AFOk Tryd.prog ext 72 a72 := .of Tryd.func72 (by kernel_rfl) (by kernel_rfl) (by kernel_rfl) (by kernel_rfl)
/-! 73: (rowlock/writes.frame).put -/
def b73 : AC :=
  (.seq (.reg [⟨(some 3), (.op (.box 117 (.t 1))), none⟩, ⟨(some 4), (.op (.mv (.k (.slice none 0 0)))), none⟩])
  (.seq (.reg [⟨(some 7), (.op (.mv (.t 0))), none⟩, ⟨(some 8), (.call (.f 84) [(.t 7)]), none⟩, ⟨(some 5), (.op (.mv (.t 8))), none⟩])
  (.seq (.seq (.reg [⟨(some 9), (.op (.mv (.t 5))), none⟩, ⟨(some 10), (.op (.lenS (.t 9))), none⟩, ⟨(some 11), (.op (.mv (.k (.int .i64 0)))), none⟩])
  (.block 0 (.loop (.seq (.reg [⟨(some 12), (.op (.bin .lss (.t 11) (.t 10))), none⟩])
   (.seq (.cond (.t 12) .skip
   (.exit 0))
   (.seq (.block 1 (.seq (.reg [⟨(some 13), (.op (.mv (.t 11))), none⟩, ⟨(some 6), (.op (.mv (.t 13))), none⟩])
   (.seq (.dreg (.quiet ⟨(some 14), (.op (.mv (.t 5))), none⟩ (.quiet ⟨(some 15), (.op (.mv (.t 6))), none⟩ (.quiet ⟨(some 16), (.op (.iaddrS 2 (.t 14) (.t 15))), none⟩ (.quiet ⟨(some 17), (.op (.faddr 0 (.t 16))), none⟩ (.quiet ⟨(some 18), (.op (.load (.t 17))), none⟩ (.quiet ⟨(some 19), (.op (.faddr 0 (.t 3))), none⟩ (.quiet ⟨(some 20), (.op (.load (.t 19))), none⟩ (.quiet ⟨(some 21), (.op (.bin .eql (.t 18) (.t 20))), none⟩ .nil)))))))))
   (.cond (.t 21) (.seq (.reg [⟨(some 22), (.op (.mv (.t 5))), none⟩, ⟨(some 23), (.op (.mv (.t 6))), none⟩, ⟨(some 24), (.op (.faddr 1 (.t 3))), none⟩, ⟨(some 25), (.op (.load (.t 24))), none⟩, ⟨(some 26), (.op (.iaddrS 2 (.t 22) (.t 23))), none⟩, ⟨(some 27), (.op (.faddr 1 (.t 26))), none⟩, ⟨none, (.op (.store 1 (.t 27) (.t 25))), none⟩])
   (.seq (.reg [⟨(some 28), (.op (.mv (.t 5))), none⟩, ⟨(some 4), (.op (.mv (.t 28))), none⟩])
   .ret))
   .skip))))
   (.reg [⟨(some 29), (.op (.bin .add (.t 11) (.k (.int .i64 1)))), none⟩, ⟨(some 11), (.op (.mv (.t 29))), none⟩])))))))
  (.seq (.reg [⟨(some 30), (.op (.mv (.t 5))), none⟩, ⟨(some 31), (.op (.loadN 2 (.t 3))), none⟩, ⟨(some 32), (.op (.bslice 117 [(.int .i64 0), (.int .u64 0)] 1 [(0, 2, (.t 31))])), none⟩, ⟨(some 33), (.op (.append 117 2 16 (.t 30) (.t 32))), none⟩, ⟨(some 4), (.op (.mv (.t 33))), none⟩])
  .ret))))
def a73 : AF := ⟨34, [(.t 4)], .code b73, none⟩
theorem ok73 : AFOk Tryd.prog ext 73 a73 := .of Tryd.func73 (by kernel_rfl) (by kernel_rfl) (by kernel_rfl) (by kernel_rfl)
/-! 74: (*rowlock/writes.Log).pop -/
def b74 : AC :=
  (.seq (.reg [⟨(some 2), (.op (.mv (.k (.slice none 0 0)))), none⟩, ⟨(some 3), (.op (.mv (.k (.int .i64 0)))), none⟩])
  (.seq (.block 0 (.seq (.reg [⟨(some 6), (.op (.mv (.t 0))), none⟩, ⟨(some 7), (.op (.eq false .ptr (.t 6) (.k (.pointer none)))), none⟩, ⟨(some 5), (.op (.mv (.t 7))), none⟩])
  (.cond (.t 5) (.seq (.reg [⟨(some 2), (.op (.mv (.k (.slice none 0 0)))), none⟩, ⟨(some 3), (.op (.mv (.k (.int .i64 1)))), none⟩])
  .ret)
  (.seq (.reg [⟨(some 9), (.op (.mv (.t 0))), none⟩, ⟨(some 10), (.op (.nilchk (.t 9))), none⟩, ⟨(some 11), (.op (.faddr 1 (.t 10))), none⟩, ⟨(some 12), (.op (.load (.t 11))), none⟩, ⟨(some 13), (.op (.bin .eql (.t 12) (.k (.int .i64 0)))), none⟩, ⟨(some 8), (.op (.mv (.t 13))), none⟩])
  (.cond (.t 8) (.seq (.reg [⟨(some 2), (.op (.mv (.k (.slice none 0 0)))), none⟩, ⟨(some 3), (.op (.mv (.k (.int .i64 8)))), none⟩])
  .ret)
  .skip)))))
  (.seq (.reg [⟨(some 14), (.op (.mv (.t 0))), none⟩, ⟨(some 15), (.op (.nilchk (.t 14))), none⟩, ⟨(some 16), (.op (.faddr 0 (.t 15))), none⟩, ⟨(some 17), (.op (.load (.t 16))), none⟩, ⟨(some 18), (.op (.nilchk (.t 17))), none⟩, ⟨(some 19), (.op (.faddr 0 (.t 18))), none⟩, ⟨(some 20), (.op (.load (.t 19))), none⟩, ⟨(some 4), (.op (.mv (.t 20))), none⟩])
  (.seq (.reg [⟨(some 21), (.op (.mv (.t 0))), none⟩, ⟨(some 22), (.op (.mv (.t 0))), none⟩, ⟨(some 23), (.op (.nilchk (.t 22))), none⟩, ⟨(some 24), (.op (.faddr 0 (.t 23))), none⟩, ⟨(some 25), (.op (.load (.t 24))), none⟩, ⟨(some 26), (.op (.nilchk (.t 25))), none⟩, ⟨(some 27), (.op (.faddr 1 (.t 26))), none⟩, ⟨(some 28), (.op (.load (.t 27))), none⟩, ⟨(some 29), (.op (.nilchk (.t 21))), none⟩, ⟨(some 30), (.op (.faddr 0 (.t 29))), none⟩, ⟨none, (.op (.store 1 (.t 30) (.t 28))), none⟩])
  (.seq (.reg [⟨(some 31), (.op (.mv (.t 0))), none⟩, ⟨(some 32), (.op (.nilchk (.t 31))), none⟩, ⟨(some 33), (.op (.faddr 1 (.t 32))), none⟩, ⟨(some 34), (.op (.load (.t 33))), none⟩, ⟨(some 35), (.op (.bin .sub (.t 34) (.k (.int .i64 1)))), none⟩, ⟨(some 36), (.op (.nilchk (.t 31))), none⟩, ⟨(some 37), (.op (.faddr 1 (.t 36))), none⟩, ⟨none, (.op (.store 1 (.t 37) (.t 35))), none⟩])
  (.seq (.reg [⟨(some 38), (.op (.mv (.t 4))), none⟩, ⟨(some 2), (.op (.mv (.t 38))), none⟩, ⟨(some 3), (.op (.mv (.k (.int .i64 0)))), none⟩])
  .ret))))))
def a74 : AF := ⟨39, [(.t 2), (.t 3)], .code b74, none⟩
theorem ok74 : AFOk Tryd.prog ext 74 a74 := .of Tryd.func74 (by kernel_rfl) (by kernel_rfl) (by kernel_rfl) (by kernel_rfl)
/-! 75: rowlock/rowlockref07.New -/
def b75 : AC :=
  (.seq (.reg [⟨(some 0), (.op (.mv (.k (.pointer none)))), none⟩])
  (.seq (.reg [⟨(some 1), (.op (.build [(.bool false), (.bool false), (.bool false), (.bool false), (.bool false), (.bool false), (.bool false), (.bool false), (.bool false), (.bool false), (.bool false), (.bool false), (.int .u64 0), (.int .u64 0), (.int .u64 0), (.int .u64 0), (.int .u64 0), (.int .u64 0), (.int .u64 0), (.int .u64 0), (.int .u64 0), (.int .u64 0), (.int .u64 0), (.int .u64 0)] [])), none⟩, ⟨(some 2), (.op (.bslice 134 [(.bool false), (.bool false), (.bool false), (.bool false), (.bool false), (.bool false), (.bool false), (.bool false), (.bool false), (.bool false), (.bool false), (.bool false), (.int .u64 0), (.int .u64 0), (.int .u64 0), (.int .u64 0), (.int .u64 0), (.int .u64 0), (.int .u64 0), (.int .u64 0), (.int .u64 0), (.int .u64 0), (.int .u64 0), (.int .u64 0)] 1 [(0, 24, (.t 1))])), none⟩, ⟨(some 3), (.op (.build [(.slice none 0 0)] [(0, 1, (.t 2))])), none⟩, ⟨(some 4), (.op (.box 125 (.t 3))), none⟩, ⟨(some 0), (.op (.mv (.t 4))), none⟩])
  .ret))
def a75 : AF := ⟨5, [(.t 0)], .code b75, none⟩
theorem ok75 : AFOk Tryd.prog ext 75 a75 := .of Tryd.func75 (by kernel_rfl) (by kernel_rfl) (by kernel_rfl) (by kernel_rfl)
/-! 77: (*rowlock/rowlockref07.Log).Put -/
def b77 : AC :=
  (.seq (.reg [⟨(some 6), (.op (.mv (.k (.int .i64 0)))), none⟩])
  (.seq (.block 0 (.seq (.reg [⟨(some 9), (.op (.mv (.t 0))), none⟩, ⟨(some 10), (.op (.eq false .ptr (.t 9) (.k (.pointer none)))), none⟩, ⟨(some 8), (.op (.mv (.t 10))), none⟩])
  (.cond (.t 8) (.seq (.reg [⟨(some 6), (.op (.mv (.k (.int .i64 1)))), none⟩])
  .ret)
  (.seq (.reg [⟨(some 12), (.op (.mv (.t 1))), none⟩, ⟨(some 13), (.op (.bin .lss (.t 12) (.k (.int .i64 0)))), none⟩, ⟨(some 14), (.op (.mv (.t 13))), none⟩, ⟨(some 15), (.op (.mv (.t 1))), (some (14, false))⟩, ⟨(some 16), (.op (.bin .geq (.t 15) (.k (.int .i64 12)))), (some (14, false))⟩, ⟨(some 17), (.op (.pick (.t 14) (.k (.bool true)) (.t 16))), none⟩, ⟨(some 11), (.op (.mv (.t 17))), none⟩])
  (.cond (.t 11) (.seq (.reg [⟨(some 6), (.op (.mv (.k (.int .i64 2)))), none⟩])
  .ret)
  (.seq (.reg [⟨(some 19), (.op (.mv (.t 2))), none⟩, ⟨(some 20), (.call (.f 64) [(.t 19)]), none⟩, ⟨(some 21), (.op (.un .not (.t 20))), none⟩, ⟨(some 18), (.op (.mv (.t 21))), none⟩])
  (.cond (.t 18) (.seq (.reg [⟨(some 6), (.op (.mv (.k (.int .i64 3)))), none⟩])
  .ret)
  .skip)))))))
  (.seq (.dreg (.quiet ⟨(some 22), (.op (.mv (.t 0))), none⟩ (.quiet ⟨(some 23), (.op (.nilchk (.t 22))), none⟩ (.quiet ⟨(some 24), (.op (.faddr 0 (.t 23))), none⟩ (.quiet ⟨(some 25), (.op (.load (.t 24))), none⟩ (.quiet ⟨(some 26), (.op (.mv (.t 0))), none⟩ (.quiet ⟨(some 27), (.op (.nilchk (.t 26))), none⟩ (.quiet ⟨(some 28), (.op (.faddr 0 (.t 27))), none⟩ (.quiet ⟨(some 29), (.op (.load (.t 28))), none⟩ (.quiet ⟨(some 30), (.op (.lenS (.t 29))), none⟩ (.quiet ⟨(some 31), (.op (.bin .sub (.t 30) (.k (.int .i64 1)))), none⟩ (.quiet ⟨(some 32), (.op (.iaddrS 24 (.t 25) (.t 31))), none⟩ (.quiet ⟨(some 33), (.op (.loadN 24 (.t 32))), none⟩ (.loud ⟨(some 7), (.op (.alloc 134 [(.bool false), (.bool false), (.bool false), (.bool false), (.bool false), (.bool false), (.bool false), (.bool false), (.bool false), (.bool false), (.bool false), (.bool false), (.int .u64 0), (.int .u64 0), (.int .u64 0), (.int .u64 0), (.int .u64 0), (.int .u64 0), (.int .u64 0), (.int .u64 0), (.int .u64 0), (.int .u64 0), (.int .u64 0), (.int .u64 0)])), none⟩ [⟨(some 33), (.op (.loadN 24 (.t 32))), none⟩, ⟨(some 29), (.op (.load (.t 28))), none⟩, ⟨(some 25), (.op (.load (.t 24))), none⟩] (.loud ⟨none, (.op (.store 24 (.t 7) (.t 33))), none⟩ [] .nil)))))))))))))))
  (.seq (.seq (.reg [⟨(some 34), (.op (.mv (.t 1))), none⟩, ⟨(some 35), (.op (.faddr 0 (.t 7))), none⟩, ⟨(some 36), (.op (.iaddrA 12 1 (.t 35) (.t 34))), none⟩, ⟨(some 37), (.op (.load (.t 36))), none⟩, ⟨(some 38), (.op (.un .not (.t 37))), none⟩, ⟨(some 39), (.op (.mv (.t 38))), none⟩, ⟨(some 40), (.op (.mv (.t 0))), (some (39, true))⟩, ⟨(some 41), (.call (.f 85) [(.t 40)]), (some (39, true))⟩, ⟨(some 42), (.op (.bin .geq (.t 41) (.k (.int .i64 16)))), (some (39, true))⟩, ⟨(some 43), (.op (.pick (.t 39) (.t 42) (.k (.bool false)))), none⟩])
  (.cond (.t 43) (.seq (.reg [⟨(some 6), (.op (.mv (.k (.int .i64 4)))), none⟩])
  .ret)
  .skip))
  (.seq (.reg [⟨(some 44), (.op (.mv (.t 1))), none⟩, ⟨(some 45), (.op (.mv (.t 1))), none⟩, ⟨(some 46), (.op (.mv (.t 2))), none⟩, ⟨(some 47), (.op (.faddr 0 (.t 7))), none⟩, ⟨(some 48), (.op (.iaddrA 12 1 (.t 47) (.t 44))), none⟩, ⟨none, (.op (.store 1 (.t 48) (.k (.bool true)))), none⟩, ⟨(some 49), (.op (.faddr 12 (.t 7))), none⟩, ⟨(some 50), (.op (.iaddrA 12 1 (.t 49) (.t 45))), none⟩, ⟨none, (.op (.store 1 (.t 50) (.t 46))), none⟩])
  (.seq (.dreg (.quiet ⟨(some 51), (.op (.mv (.t 0))), none⟩ (.quiet ⟨(some 52), (.op (.mv (.t 0))), none⟩ (.quiet ⟨(some 53), (.op (.nilchk (.t 52))), none⟩ (.quiet ⟨(some 54), (.op (.faddr 0 (.t 53))), none⟩ (.quiet ⟨(some 55), (.op (.load (.t 54))), none⟩ (.quiet ⟨(some 56), (.op (.lenS (.t 55))), none⟩ (.quiet ⟨(some 57), (.op (.bin .sub (.t 56) (.k (.int .i64 1)))), none⟩ (.quiet ⟨(some 58), (.op (.loadN 24 (.t 7))), none⟩ (.loud ⟨(some 59), (.call (.f 86) [(.t 51), (.t 57), (.t 58)]), none⟩ [] .nil))))))))))
  (.seq (.reg [⟨(some 6), (.op (.mv (.k (.int .i64 0)))), none⟩])
  .ret)))))))
def a77 : AF := ⟨60, [(.t 6)], .code b77, none⟩
theorem ok77 : AFOk Tryd.prog ext 77 a77 := .of Tryd.func77 (by kernel_rfl) (by kernel_rfl) (by kernel_rfl) (by kernel_rfl)
/-! 78: (*rowlock/rowlockref07.Log).Push -/
def b78 : AC :=
  (.seq (.reg [⟨(some 2), (.op (.mv (.k (.int .i64 0)))), none⟩])
  (.seq (.block 0 (.seq (.reg [⟨(some 4), (.op (.mv (.t 0))), none⟩, ⟨(some 5), (.op (.eq false .ptr (.t 4) (.k (.pointer none)))), none⟩, ⟨(some 3), (.op (.mv (.t 5))), none⟩])
  (.cond (.t 3) (.seq (.reg [⟨(some 2), (.op (.mv (.k (.int .i64 1)))), none⟩])
  .ret)
  (.seq (.reg [⟨(some 7), (.op (.mv (.t 0))), none⟩, ⟨(some 8), (.call (.f 66) [(.t 7)]), none⟩, ⟨(some 9), (.op (.bin .geq (.t 8) (.k (.int .i64 4)))), none⟩, ⟨(some 6), (.op (.mv (.t 9))), none⟩])
  (.cond (.t 6) (.seq (.reg [⟨(some 2), (.op (.mv (.k (.int .i64 4)))), none⟩])
  .ret)
  .skip)))))
  (.seq (.reg [⟨(some 10), (.op (.mv (.t 0))), none⟩, ⟨(some 11), (.op (.bslice 134 [] 0 [])), none⟩, ⟨(some 12), (.op (.mv (.t 0))), none⟩, ⟨(some 13), (.op (.nilchk (.t 12))), none⟩, ⟨(some 14), (.op (.faddr 0 (.t 13))), none⟩, ⟨(some 15), (.op (.load (.t 14))), none⟩, ⟨(some 16), (.op (.append 134 24 112 (.t 11) (.t 15))), none⟩, ⟨(some 17), (.op (.build [(.bool false), (.bool false), (.bool false), (.bool false), (.bool false), (.bool false), (.bool false), (.bool false), (.bool false), (.bool false), (.bool false), (.bool false), (.int .u64 0), (.int .u64 0), (.int .u64 0), (.int .u64 0), (.int .u64 0), (.int .u64 0), (.int .u64 0), (.int .u64 0), (.int .u64 0), (.int .u64 0), (.int .u64 0), (.int .u64 0)] [])), none⟩, ⟨(some 18), (.op (.bslice 134 [(.bool false), (.bool false), (.bool false), (.bool false), (.bool false), (.bool false), (.bool false), (.bool false), (.bool false), (.bool false), (.bool false), (.bool false), (.int .u64 0), (.int .u64 0), (.int .u64 0), (.int .u64 0), (.int .u64 0), (.int .u64 0), (.int .u64 0), (.int .u64 0), (.int .u64 0), (.int .u64 0), (.int .u64 0), (.int .u64 0)] 1 [(0, 24, (.t 17))])), none⟩, ⟨(some 19), (.op (.append 134 24 112 (.t 16) (.t 18))), none⟩, ⟨(some 20), (.op (.nilchk (.t 10))), none⟩, ⟨(some 21), (.op (.faddr 0 (.t 20))), none⟩, ⟨none, (.op (.store 1 (.t 21) (.t 19))), none⟩])
  (.seq (.reg [⟨(some 2), (.op (.mv (.k (.int .i64 0)))), none⟩])
  .ret))))
def a78 : AF := ⟨22, [(.t 2)], .code b78, none⟩
theorem ok78 : AFOk Tryd.prog ext 78 a78 := .of Tryd.func78 (by kernel_rfl) (by kernel_rfl) (by kernel_rfl) (by kernel_rfl)
/-! 79: (*rowlock/rowlockref07.Log).Drop -/
def b79 : AC :=
  (.seq (.reg [⟨(some 2), (.op (.mv (.k (.int .i64 0)))), none⟩])
  (.seq (.block 0 (.seq (.reg [⟨(some 4), (.op (.mv (.t 0))), none⟩, ⟨(some 5), (.op (.eq false .ptr (.t 4) (.k (.pointer none)))), none⟩, ⟨(some 3), (.op (.mv (.t 5))), none⟩])
  (.cond (.t 3) (.seq (.reg [⟨(some 2), (.op (.mv (.k (.int .i64 1)))), none⟩])
  .ret)
  (.seq (.reg [⟨(some 7), (.op (.mv (.t 0))), none⟩, ⟨(some 8), (.call (.f 66) [(.t 7)]), none⟩, ⟨(some 9), (.op (.bin .eql (.t 8) (.k (.int .i64 0)))), none⟩, ⟨(some 6), (.op (.mv (.t 9))), none⟩])
  (.cond (.t 6) (.seq (.reg [⟨(some 2), (.op (.mv (.k (.int .i64 8)))), none⟩])
  .ret)
  .skip)))))
  (.seq (.dreg (.quiet ⟨(some 10), (.op (.mv (.t 0))), none⟩ (.quiet ⟨(some 12), (.op (.mv (.t 0))), none⟩ (.quiet ⟨(some 13), (.op (.nilchk (.t 12))), none⟩ (.quiet ⟨(some 14), (.op (.faddr 0 (.t 13))), none⟩ (.quiet ⟨(some 15), (.op (.load (.t 14))), none⟩ (.quiet ⟨(some 16), (.op (.mv (.t 0))), none⟩ (.quiet ⟨(some 17), (.op (.nilchk (.t 16))), none⟩ (.quiet ⟨(some 18), (.op (.faddr 0 (.t 17))), none⟩ (.quiet ⟨(some 19), (.op (.load (.t 18))), none⟩ (.quiet ⟨(some 20), (.op (.lenS (.t 19))), none⟩ (.quiet ⟨(some 21), (.op (.bin .sub (.t 20) (.k (.int .i64 1)))), none⟩ (.quiet ⟨(some 22), (.op (.slice 24 (.t 15) none (some (.t 21)) none)), none⟩ (.loud ⟨(some 11), (.op (.bslice 134 [] 0 [])), none⟩ [⟨(some 19), (.op (.load (.t 18))), none⟩, ⟨(some 15), (.op (.load (.t 14))), none⟩] (.loud ⟨(some 23), (.op (.append 134 24 112 (.t 11) (.t 22))), none⟩ [] (.quiet ⟨(some 24), (.op (.nilchk (.t 10))), none⟩ (.quiet ⟨(some 25), (.op (.faddr 0 (.t 24))), none⟩ (.loud ⟨none, (.op (.store 1 (.t 25) (.t 23))), none⟩ [] .nil))))))))))))))))))
  (.seq (.reg [⟨(some 2), (.op (.mv (.k (.int .i64 0)))), none⟩])
  .ret))))
def a79 : AF := ⟨26, [(.t 2)], .code b79, none⟩
theorem ok79 : AFOk Tryd.prog ext 79 a79 := .of Tryd.func79 (by kernel_rfl) (by kernel_rfl) (by kernel_rfl) (by kernel_rfl)
/-! 80: (*rowlock/rowlockref07.Log).Merge -/
def b80 : AC :=
  (.seq (.reg [⟨(some 2), (.op (.mv (.k (.int .i64 0)))), none⟩])
  (.seq (.block 0 (.seq (.reg [⟨(some 8), (.op (.mv (.t 0))), none⟩, ⟨(some 9), (.op (.eq false .ptr (.t 8) (.k (.pointer none)))), none⟩, ⟨(some 7), (.op (.mv (.t 9))), none⟩])
  (.cond (.t 7) (.seq (.reg [⟨(some 2), (.op (.mv (.k (.int .i64 1)))), none⟩])
  .ret)
  (.seq (.reg [⟨(some 11), (.op (.mv (.t 0))), none⟩, ⟨(some 12), (.call (.f 66) [(.t 11)]), none⟩, ⟨(some 13), (.op (.bin .eql (.t 12) (.k (.int .i64 0)))), none⟩, ⟨(some 10), (.op (.mv (.t 13))), none⟩])
  (.cond (.t 10) (.seq (.reg [⟨(some 2), (.op (.mv (.k (.int .i64 8)))), none⟩])
  .ret)
  .skip)))))
  (.seq (.reg [⟨(some 14), (.op (.mv (.t 0))), none⟩, ⟨(some 15), (.op (.nilchk (.t 14))), none⟩, ⟨(some 16), (.op (.faddr 0 (.t 15))), none⟩, ⟨(some 17), (.op (.load (.t 16))), none⟩, ⟨(some 18), (.op (.lenS (.t 17))), none⟩, ⟨(some 3), (.op (.mv (.t 18))), none⟩])
  (.seq (.dreg (.quiet ⟨(some 19), (.op (.mv (.t 0))), none⟩ (.quiet ⟨(some 20), (.op (.nilchk (.t 19))), none⟩ (.quiet ⟨(some 21), (.op (.faddr 0 (.t 20))), none⟩ (.quiet ⟨(some 22), (.op (.load (.t 21))), none⟩ (.quiet ⟨(some 23), (.op (.mv (.t 3))), none⟩ (.quiet ⟨(some 24), (.op (.bin .sub (.t 23) (.k (.int .i64 1)))), none⟩ (.quiet ⟨(some 25), (.op (.iaddrS 24 (.t 22) (.t 24))), none⟩ (.quiet ⟨(some 26), (.op (.loadN 24 (.t 25))), none⟩ (.quiet ⟨(some 27), (.op (.mv (.t 0))), none⟩ (.quiet ⟨(some 28), (.op (.nilchk (.t 27))), none⟩ (.quiet ⟨(some 29), (.op (.faddr 0 (.t 28))), none⟩ (.quiet ⟨(some 30), (.op (.load (.t 29))), none⟩ (.quiet ⟨(some 31), (.op (.mv (.t 3))), none⟩ (.quiet ⟨(some 32), (.op (.bin .sub (.t 31) (.k (.int .i64 2)))), none⟩ (.quiet ⟨(some 33), (.op (.iaddrS 24 (.t 30) (.t 32))), none⟩ (.quiet ⟨(some 34), (.op (.loadN 24 (.t 33))), none⟩ (.both (.loud ⟨(some 4), (.op (.alloc 134 [(.bool false), (.bool false), (.bool false), (.bool false), (.bool false), (.bool false), (.bool false), (.bool false), (.bool false), (.bool false), (.bool false), (.bool false), (.int .u64 0), (.int .u64 0), (.int .u64 0), (.int .u64 0), (.int .u64 0), (.int .u64 0), (.int .u64 0), (.int .u64 0), (.int .u64 0), (.int .u64 0), (.int .u64 0), (.int .u64 0)])), none⟩ [⟨(some 34), (.op (.loadN 24 (.t 33))), none⟩, ⟨(some 30), (.op (.load (.t 29))), none⟩, ⟨(some 26), (.op (.loadN 24 (.t 25))), none⟩, ⟨(some 22), (.op (.load (.t 21))), none⟩] (.loud ⟨(some 5), (.op (.alloc 134 [(.bool false), (.bool false), (.bool false), (.bool false), (.bool false), (.bool false), (.bool false), (.bool false), (.bool false), (.bool false), (.bool false), (.bool false), (.int .u64 0), (.int .u64 0), (.int .u64 0), (.int .u64 0), (.int .u64 0), (.int .u64 0), (.int .u64 0), (.int .u64 0), (.int .u64 0), (.int .u64 0), (.int .u64 0), (.int .u64 0)])), none⟩ [⟨(some 34), (.op (.loadN 24 (.t 33))), none⟩, ⟨(some 30), (.op (.load (.t 29))), none⟩, ⟨(some 26), (.op (.loadN 24 (.t 25))), none⟩, ⟨(some 22), (.op (.load (.t 21))), none⟩] (.loud ⟨none, (.op (.store 24 (.t 4) (.t 26))), none⟩ [⟨(some 34), (.op (.loadN 24 (.t 33))), none⟩, ⟨(some 30), (.op (.load (.t 29))), none⟩] (.loud ⟨none, (.op (.store 24 (.t 5) (.t 34))), none⟩ [] .nil))))
    (.loud ⟨(some 5), (.op (.alloc 134 [(.bool false), (.bool false), (.bool false), (.bool false), (.bool false), (.bool false), (.bool false), (.bool false), (.bool false), (.bool false), (.bool false), (.bool false), (.int .u64 0), (.int .u64 0), (.int .u64 0), (.int .u64 0), (.int .u64 0), (.int .u64 0), (.int .u64 0), (.int .u64 0), (.int .u64 0), (.int .u64 0), (.int .u64 0), (.int .u64 0)])), none⟩ [⟨(some 34), (.op (.loadN 24 (.t 33))), none⟩, ⟨(some 30), (.op (.load (.t 29))), none⟩, ⟨(some 26), (.op (.loadN 24 (.t 25))), none⟩, ⟨(some 22), (.op (.load (.t 21))), none⟩] (.loud ⟨(some 4), (.op (.alloc 134 [(.bool false), (.bool false), (.bool false), (.bool false), (.bool false), (.bool false), (.bool false), (.bool false), (.bool false), (.bool false), (.bool false), (.bool false), (.int .u64 0), (.int .u64 0), (.int .u64 0), (.int .u64 0), (.int .u64 0), (.int .u64 0), (.int .u64 0), (.int .u64 0), (.int .u64 0), (.int .u64 0), (.int .u64 0), (.int .u64 0)])), none⟩ [⟨(some 34), (.op (.loadN 24 (.t 33))), none⟩, ⟨(some 30), (.op (.load (.t 29))), none⟩, ⟨(some 26), (.op (.loadN 24 (.t 25))), none⟩, ⟨(some 22), (.op (.load (.t 21))), none⟩] (.loud ⟨none, (.op (.store 24 (.t 4) (.t 26))), none⟩ [⟨(some 34), (.op (.loadN 24 (.t 33))), none⟩, ⟨(some 30), (.op (.load (.t 29))), none⟩] (.loud ⟨none, (.op (.store 24 (.t 5) (.t 34))), none⟩ [] .nil))))))))))))))))))))))
  (.seq (.seq (.reg [⟨(some 6), (.op (.mv (.k (.int .i64 0)))), none⟩])
  (.block 1 (.loop (.seq (.seq (.reg [⟨(some 35), (.op (.mv (.t 6))), none⟩, ⟨(some 36), (.op (.bin .lss (.t 35) (.k (.int .i64 12)))), none⟩])
   (.cond (.t 36) .skip
   (.exit 1)))
   (.seq (.block 2 (.seq (.reg [⟨(some 39), (.op (.mv (.t 6))), none⟩, ⟨(some 40), (.op (.faddr 0 (.t 4))), none⟩, ⟨(some 41), (.op (.iaddrA 12 1 (.t 40) (.t 39))), none⟩, ⟨(some 42), (.op (.load (.t 41))), none⟩])
   (.cond (.t 42) (.dreg (.quiet ⟨(some 43), (.op (.mv (.t 6))), none⟩ (.quiet ⟨(some 44), (.op (.mv (.t 6))), none⟩ (.quiet ⟨(some 45), (.op (.mv (.t 6))), none⟩ (.quiet ⟨(some 46), (.op (.faddr 12 (.t 4))), none⟩ (.quiet ⟨(some 47), (.op (.iaddrA 12 1 (.t 46) (.t 45))), none⟩ (.quiet ⟨(some 48), (.op (.load (.t 47))), none⟩ (.quiet ⟨(some 49), (.op (.faddr 0 (.t 5))), none⟩ (.quiet ⟨(some 50), (.op (.iaddrA 12 1 (.t 49) (.t 43))), none⟩ (.quiet ⟨(some 51), (.op (.faddr 12 (.t 5))), none⟩ (.loud ⟨none, (.op (.store 1 (.t 50) (.k (.bool true)))), none⟩ [⟨(some 48), (.op (.load (.t 47))), none⟩] (.quiet ⟨(some 52), (.op (.iaddrA 12 1 (.t 51) (.t 44))), none⟩ (.loud ⟨none, (.op (.store 1 (.t 52) (.t 48))), none⟩ [] .nil)))))))))))))
   .skip)))
   (.reg [⟨(some 37), (.op (.mv (.t 6))), none⟩, ⟨(some 38), (.op (.bin .add (.t 37) (.k (.int .i64 1)))), none⟩, ⟨(some 6), (.op (.mv (.t 38))), none⟩]))))))
  (.seq (.reg [⟨(some 53), (.op (.mv (.t 0))), none⟩, ⟨(some 54), (.call (.f 79) [(.t 53)]), none⟩])
  (.seq (.reg [⟨(some 55), (.op (.mv (.t 0))), none⟩, ⟨(some 56), (.op (.mv (.t 3))), none⟩, ⟨(some 57), (.op (.bin .sub (.t 56) (.k (.int .i64 2)))), none⟩, ⟨(some 58), (.op (.loadN 24 (.t 5))), none⟩, ⟨(some 59), (.call (.f 86) [(.t 55), (.t 57), (.t 58)]), none⟩])
  (.seq (.reg [⟨(some 2), (.op (.mv (.k (.int .i64 0)))), none⟩])
  .ret))))))))
def a80 : AF := ⟨60, [(.t 2)], .code b80, none⟩
theorem ok80 : AFOk Tryd.prog ext 80 a80 := .of Tryd.func80 (by kernel_rfl) (by kernel_rfl) (by kernel_rfl) (by kernel_rfl)
/-! 83: (*rowlock/writes.stack[rowlock/writes.frame]).all -/
def b83 : AC :=
  (.seq (.reg [⟨(some 1), (.op (.box 95 (.t 0))), none⟩, ⟨(some 2), (.op (.mv (.k .nilFunc))), none⟩])
  (.seq (.reg [⟨(some 3), (.op (.mkfunc 92 [] [(.t 1)])), none⟩, ⟨(some 2), (.op (.mv (.t 3))), none⟩])
  .ret))
def a83 : AF := ⟨4, [(.t 2)], .code b83, none⟩
theorem ok83 : AFOk Tryd.prog ext 83 a83 := .of Tryd.func83 (by kernel_rfl) (by kernel_rfl) (by kernel_rfl) (by kernel_rfl)
/-! 84: slices.Clone[rowlock/writes.frame,rowlock/api.Pair] -/
def b84 : AC :=
  (.seq (.reg [⟨(some 2), (.op (.mv (.k (.slice none 0 0)))), none⟩])
  (.seq (.seq (.reg [⟨(some 3), (.op (.mv (.t 0))), none⟩, ⟨(some 4), (.isnil false (.t 3)), none⟩])
  (.cond (.t 4) (.seq (.reg [⟨(some 2), (.op (.mv (.k (.slice none 0 0)))), none⟩])
  .ret)
  .skip))
  (.seq (.reg [⟨(some 5), (.op (.bslice 117 [] 0 [])), none⟩, ⟨(some 6), (.op (.mv (.t 0))), none⟩, ⟨(some 7), (.op (.append 117 2 16 (.t 5) (.t 6))), none⟩, ⟨(some 2), (.op (.mv (.t 7))), none⟩])
  .ret)))
def a84 : AF := ⟨8, [(.t 2)], .code b84, none⟩
theorem ok84 : AFOk Tryd.prog ext 84 a84 := .of Tryd.func84 (by kernel_rfl) (by kernel_rfl) (by kernel_rfl) (by kernel_rfl)
/-! 85: (*rowlock/rowlockref07.Log).Len -/
def b85 : AC :=
  (.seq (.reg [⟨(some 2), (.op (.mv (.k (.int .i64 0)))), none⟩])
  (.seq (.reg [⟨(some 3), (.op (.mv (.k (.int .i64 0)))), none⟩])
  (.seq (.seq (.reg [⟨(some 4), (.op (.mv (.k (.int .i64 0)))), none⟩])
  (.block 0 (.loop (.seq (.seq (.reg [⟨(some 6), (.op (.mv (.t 0))), none⟩, ⟨(some 7), (.op (.eq true .ptr (.t 6) (.k (.pointer none)))), none⟩, ⟨(some 8), (.op (.mv (.t 7))), none⟩, ⟨(some 9), (.op (.mv (.t 4))), (some (8, true))⟩, ⟨(some 10), (.op (.mv (.t 0))), (some (8, true))⟩, ⟨(some 11), (.op (.nilchk (.t 10))), (some (8, true))⟩, ⟨(some 12), (.op (.faddr 0 (.t 11))), (some (8, true))⟩, ⟨(some 13), (.op (.load (.t 12))), (some (8, true))⟩, ⟨(some 14), (.op (.lenS (.t 13))), (some (8, true))⟩, ⟨(some 15), (.op (.bin .lss (.t 9) (.t 14))), (some (8, true))⟩, ⟨(some 16), (.op (.pick (.t 8) (.t 15) (.k (.bool false)))), none⟩])
   (.cond (.t 16) .skip
   (.exit 0)))
   (.seq (.block 1 (.seq (.reg [⟨(some 5), (.op (.mv (.k (.int .i64 0)))), none⟩])
   (.block 2 (.loop (.seq (.seq (.reg [⟨(some 19), (.op (.mv (.t 5))), none⟩, ⟨(some 20), (.op (.bin .lss (.t 19) (.k (.int .i64 12)))), none⟩])
    (.cond (.t 20) .skip
    (.exit 2)))
    (.seq (.block 3 (.seq (.reg [⟨(some 23), (.op (.mv (.t 0))), none⟩, ⟨(some 24), (.op (.nilchk (.t 23))), none⟩, ⟨(some 25), (.op (.faddr 0 (.t 24))), none⟩, ⟨(some 26), (.op (.load (.t 25))), none⟩, ⟨(some 27), (.op (.mv (.t 4))), none⟩, ⟨(some 28), (.op (.mv (.t 5))), none⟩, ⟨(some 29), (.op (.iaddrS 24 (.t 26) (.t 27))), none⟩, ⟨(some 30), (.op (.faddr 0 (.t 29))), none⟩, ⟨(some 31), (.op (.iaddrA 12 1 (.t 30) (.t 28))), none⟩, ⟨(some 32), (.op (.load (.t 31))), none⟩])
    (.cond (.t 32) (.reg [⟨(some 33), (.op (.mv (.t 3))), none⟩, ⟨(some 34), (.op (.bin .add (.t 33) (.k (.int .i64 1)))), none⟩, ⟨(some 3), (.op (.mv (.t 34))), none⟩])
    .skip)))
    (.reg [⟨(some 21), (.op (.mv (.t 5))), none⟩, ⟨(some 22), (.op (.bin .add (.t 21) (.k (.int .i64 1)))), none⟩, ⟨(some 5), (.op (.mv (.t 22))), none⟩])))))))
   (.reg [⟨(some 17), (.op (.mv (.t 4))), none⟩, ⟨(some 18), (.op (.bin .add (.t 17) (.k (.int .i64 1)))), none⟩, ⟨(some 4), (.op (.mv (.t 18))), none⟩]))))))
  (.seq (.reg [⟨(some 35), (.op (.mv (.t 3))), none⟩, ⟨(some 2), (.op (.mv (.t 35))), none⟩])
  .ret))))
def a85 : AF := ⟨36, [(.t 2)], .code b85, none⟩
theorem ok85 : AFOk Tryd.prog ext 85 a85 := .of Tryd.func85 (by kernel_rfl) (by kernel_rfl) (by kernel_rfl) (by kernel_rfl)
/-! 86: (*rowlock/rowlockref07.Log).set -/
def b86 : AC :=
  (.seq (.reg [⟨(some 5), (.op (.box 134 (.t 2))), none⟩])
  (.seq (.reg [⟨(some 7), (.op (.bslice 134 [] 0 [])), none⟩, ⟨(some 8), (.op (.mv (.t 0))), none⟩, ⟨(some 9), (.op (.nilchk (.t 8))), none⟩, ⟨(some 10), (.op (.faddr 0 (.t 9))), none⟩, ⟨(some 11), (.op (.load (.t 10))), none⟩, ⟨(some 12), (.op (.append 134 24 112 (.t 7) (.t 11))), none⟩, ⟨(some 6), (.op (.mv (.t 12))), none⟩])
  (.seq (.reg [⟨(some 13), (.op (.mv (.t 6))), none⟩, ⟨(some 14), (.op (.mv (.t 1))), none⟩, ⟨(some 15), (.op (.loadN 24 (.t 5))), none⟩, ⟨(some 16), (.op (.iaddrS 24 (.t 13) (.t 14))), none⟩, ⟨none, (.op (.store 24 (.t 16) (.t 15))), none⟩])
  (.reg [⟨(some 17), (.op (.mv (.t 0))), none⟩, ⟨(some 18), (.op (.mv (.t 6))), none⟩, ⟨(some 19), (.op (.nilchk (.t 17))), none⟩, ⟨(some 20), (.op (.faddr 0 (.t 19))), none⟩, ⟨none, (.op (.store 1 (.t 20) (.t 18))), none⟩]))))
def a86 : AF := ⟨21, [], .code b86, none⟩
theorem ok86 : AFOk Tryd.prog ext 86 a86 := .of Tryd.func86 (by kernel_rfl) (by kernel_rfl) (by kernel_rfl) (by kernel_rfl)
/-! 92: (*rowlock/writes.stack[rowlock/writes.frame]).all$1 -/
def b92 : AC :=
  (.block 0 (.loop (.seq (.seq (.reg [⟨(some 3), (.op (.load (.t 1))), none⟩, ⟨(some 4), (.op (.eq true .ptr (.t 3) (.k (.pointer none)))), none⟩])
   (.cond (.t 4) .skip
   (.exit 0)))
   (.seq (.block 1 (.seq (.reg [⟨(some 9), (.op (.mv (.t 0))), none⟩, ⟨(some 10), (.op (.load (.t 1))), none⟩, ⟨(some 11), (.op (.nilchk (.t 10))), none⟩, ⟨(some 12), (.op (.faddr 0 (.t 11))), none⟩, ⟨(some 13), (.op (.load (.t 12))), none⟩, ⟨(some 14), (.call (.t 9) [(.t 13)]), none⟩, ⟨(some 15), (.op (.un .not (.t 14))), none⟩])
   (.cond (.t 15) .ret
   .skip)))
   (.reg [⟨(some 5), (.op (.load (.t 1))), none⟩, ⟨(some 6), (.op (.nilchk (.t 5))), none⟩, ⟨(some 7), (.op (.faddr 1 (.t 6))), none⟩, ⟨(some 8), (.op (.load (.t 7))), none⟩, ⟨none, (.op (.store 1 (.t 1) (.t 8))), none⟩])))))
def a92 : AF := ⟨16, [], .code b92, none⟩
theorem ok92 : AFOk Tryd.prog ext 92 a92 := .of Tryd.func92 (by kernel_rfl) (by kernel_rfl) (by kernel_rfl) (by kernel_rfl)
def forms : FuncId → Option AF
  | 2 => some a2
  | 3 => some a3
  | 4 => some a4
  | 5 => some a5
  | 6 => some a6
  | 7 => some a7
  | 9 => some a9
  | 10 => some a10
  | 11 => some a11
  | 12 => some a12
  | 13 => some a13
  | 14 => some a14
  | 17 => some a17
  | 18 => some a18
  | 19 => some a19
  | 20 => some a20
  | 21 => some a21
  | 22 => some a22
  | 23 => some a23
  | 24 => some a24
  | 26 => some a26
  | 27 => some a27
  | 28 => some a28
  | 29 => some a29
  | 30 => some a30
  | 31 => some a31
  | 32 => some a32
  | 33 => some a33
  | 34 => some a34
  | 35 => some a35
  | 36 => some a36
  | 37 => some a37
  | 38 => some a38
  | 39 => some a39
  | 40 => some a40
  | 41 => some a41
  | 42 => some a42
  | 43 => some a43
  | 44 => some a44
  | 45 => some a45
  | 46 => some a46
  | 47 => some a47
  | 48 => some a48
  | 49 => some a49
  | 50 => some a50
  | 51 => some a51
  | 52 => some a52
  | 54 => some a54
  | 56 => some a56
  | 58 => some a58
  | 59 => some a59
  | 60 => some a60
  | 61 => some a61
  | 62 => some a62
  | 63 => some a63
  | 64 => some a64
  | 65 => some a65
  | 66 => some a66
  | 69 => some a69
  | 71 => some a71
  | 72 => some a72
  | 73 => some a73
  | 74 => some a74
  | 75 => some a75
  | 77 => some a77
  | 78 => some a78
  | 79 => some a79
  | 80 => some a80
  | 83 => some a83
  | 84 => some a84
  | 85 => some a85
  | 86 => some a86
  | 92 => some a92
  | _ => none
theorem forms2 : forms 2 = some a2 := rfl
theorem forms3 : forms 3 = some a3 := rfl
theorem forms4 : forms 4 = some a4 := rfl
theorem forms5 : forms 5 = some a5 := rfl
theorem forms6 : forms 6 = some a6 := rfl
theorem forms7 : forms 7 = some a7 := rfl
theorem forms9 : forms 9 = some a9 := rfl
theorem forms10 : forms 10 = some a10 := rfl
theorem forms11 : forms 11 = some a11 := rfl
theorem forms12 : forms 12 = some a12 := rfl
theorem forms13 : forms 13 = some a13 := rfl
theorem forms14 : forms 14 = some a14 := rfl
theorem forms17 : forms 17 = some a17 := rfl
theorem forms18 : forms 18 = some a18 := rfl
theorem forms19 : forms 19 = some a19 := rfl
theorem forms20 : forms 20 = some a20 := rfl
theorem forms21 : forms 21 = some a21 := rfl
theorem forms22 : forms 22 = some a22 := rfl
theorem forms23 : forms 23 = some a23 := rfl
theorem forms24 : forms 24 = some a24 := rfl
theorem forms26 : forms 26 = some a26 := rfl
theorem forms27 : forms 27 = some a27 := rfl
theorem forms28 : forms 28 = some a28 := rfl
theorem forms29 : forms 29 = some a29 := rfl
theorem forms30 : forms 30 = some a30 := rfl
theorem forms31 : forms 31 = some a31 := rfl
theorem forms32 : forms 32 = some a32 := rfl
theorem forms33 : forms 33 = some a33 := rfl
theorem forms34 : forms 34 = some a34 := rfl
theorem forms35 : forms 35 = some a35 := rfl
theorem forms36 : forms 36 = some a36 := rfl
theorem forms37 : forms 37 = some a37 := rfl
theorem forms38 : forms 38 = some a38 := rfl
theorem forms39 : forms 39 = some a39 := rfl
theorem forms40 : forms 40 = some a40 := rfl
theorem forms41 : forms 41 = some a41 := rfl
theorem forms42 : forms 42 = some a42 := rfl
theorem forms43 : forms 43 = some a43 := rfl
theorem forms44 : forms 44 = some a44 := rfl
theorem forms45 : forms 45 = some a45 := rfl
theorem forms46 : forms 46 = some a46 := rfl
theorem forms47 : forms 47 = some a47 := rfl
theorem forms48 : forms 48 = some a48 := rfl
theorem forms49 : forms 49 = some a49 := rfl
theorem forms50 : forms 50 = some a50 := rfl
theorem forms51 : forms 51 = some a51 := rfl
theorem forms52 : forms 52 = some a52 := rfl
theorem forms54 : forms 54 = some a54 := rfl
theorem forms56 : forms 56 = some a56 := rfl
theorem forms58 : forms 58 = some a58 := rfl
theorem forms59 : forms 59 = some a59 := rfl
theorem forms60 : forms 60 = some a60 := rfl
theorem forms61 : forms 61 = some a61 := rfl
theorem forms62 : forms 62 = some a62 := rfl
theorem forms63 : forms 63 = some a63 := rfl
theorem forms64 : forms 64 = some a64 := rfl
theorem forms65 : forms 65 = some a65 := rfl
theorem forms66 : forms 66 = some a66 := rfl
theorem forms69 : forms 69 = some a69 := rfl
theorem forms71 : forms 71 = some a71 := rfl
theorem forms72 : forms 72 = some a72 := rfl
theorem forms73 : forms 73 = some a73 := rfl
theorem forms74 : forms 74 = some a74 := rfl
theorem forms75 : forms 75 = some a75 := rfl
theorem forms77 : forms 77 = some a77 := rfl
theorem forms78 : forms 78 = some a78 := rfl
theorem forms79 : forms 79 = some a79 := rfl
theorem forms80 : forms 80 = some a80 := rfl
theorem forms83 : forms 83 = some a83 := rfl
theorem forms84 : forms 84 = some a84 := rfl
theorem forms85 : forms 85 = some a85 := rfl
theorem forms86 : forms 86 = some a86 := rfl
theorem forms92 : forms 92 = some a92 := rfl
set_option maxHeartbeats 4000000 in
theorem forms_ok : ∀ f af, forms f = some af → AFOk Tryd.prog ext f af := by
  intro f af h
  unfold forms at h
  split at h
  · cases h; exact ok2
  · cases h; exact ok3
  · cases h; exact ok4
  · cases h; exact ok5
  · cases h; exact ok6
  · cases h; exact ok7
  · cases h; exact ok9
  · cases h; exact ok10
  · cases h; exact ok11
  · cases h; exact ok12
  · cases h; exact ok13
  · cases h; exact ok14
  · cases h; exact ok17
  · cases h; exact ok18
  · cases h; exact ok19
  · cases h; exact ok20
  · cases h; exact ok21
  · cases h; exact ok22
  · cases h; exact ok23
  · cases h; exact ok24
  · cases h; exact ok26
  · cases h; exact ok27
  · cases h; exact ok28
  · cases h; exact ok29
  · cases h; exact ok30
  · cases h; exact ok31
  · cases h; exact ok32
  · cases h; exact ok33
  · cases h; exact ok34
  · cases h; exact ok35
  · cases h; exact ok36
  · cases h; exact ok37
  · cases h; exact ok38
  · cases h; exact ok39
  · cases h; exact ok40
  · cases h; exact ok41
  · cases h; exact ok42
  · cases h; exact ok43
  · cases h; exact ok44
  · cases h; exact ok45
  · cases h; exact ok46
  · cases h; exact ok47
  · cases h; exact ok48
  · cases h; exact ok49
  · cases h; exact ok50
  · cases h; exact ok51
  · cases h; exact ok52
  · cases h; exact ok54
  · cases h; exact ok56
  · cases h; exact ok58
  · cases h; exact ok59
  · cases h; exact ok60
  · cases h; exact ok61
  · cases h; exact ok62
  · cases h; exact ok63
  · cases h; exact ok64
  · cases h; exact ok65
  · cases h; exact ok66
  · cases h; exact ok69
  · cases h; exact ok71
  · cases h; exact ok72
  · cases h; exact ok73
  · cases h; exact ok74
  · cases h; exact ok75
  · cases h; exact ok77
  · cases h; exact ok78
  · cases h; exact ok79
  · cases h; exact ok80
  · cases h; exact ok83
  · cases h; exact ok84
  · cases h; exact ok85
  · cases h; exact ok86
  · cases h; exact ok92
  · cases h
theorem hext : ExtOk Tryd.prog ext := .one fun args w => run_callFunc_extern Tryd.func76 (by kernel_rfl) (by kernel_rfl) (by kernel_rfl) (by kernel_rfl) args w
theorem hmix : Tryd.prog.follows .mixedOrders = true := by kernel_rfl
end YtmhkpababjdnbaaDoor
end Go.Proofs
