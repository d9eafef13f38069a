/-
  THE FUNCTIONS of this seat in their plain form, and that each is the loaded one's.
-/
import Derived.Test.YtaajajcdgaaloaaProg
import Derived.Test.YtaajajcdgaaloaaPA2
import Derived.Laws.Externs
namespace Go.Proofs
namespace Ytaajajcdgaaloaa
open Go.Abs

def ext : FuncId → Option Ext1 := fun _ => none
/-! 2: gosem.cut.init -/
def b2 : AC :=
  (.reg [⟨(some 0), (.call (.f 1) []), none⟩])
def a2 : AF := ⟨1, [], .code b2, none⟩
theorem ok2 : AFOk Try.prog ext 2 a2 := .of Try.func2 (by kernel_rfl) (by kernel_rfl) (by kernel_rfl) (by kernel_rfl)
/-! 3: rowlock/rowlocklaw04.StripesOne -/
def b3 : AC :=
  (.seq (.reg [⟨(some 6), (.op (.mv (.k (.bool false)))), none⟩])
  (.seq (.reg [⟨(some 18), (.op (.mv (.t 0))), none⟩, ⟨(some 19), (.call (.f 8) [(.k (.int .u8 5)), (.t 18)]), none⟩, ⟨(some 17), (.op (.mv (.t 19))), none⟩, ⟨(some 20), (.op (.extract (.t 17) 0)), none⟩, ⟨(some 21), (.op (.extract (.t 17) 1)), none⟩, ⟨(some 22), (.op (.extract (.t 17) 2)), none⟩, ⟨(some 7), (.op (.mv (.t 20))), none⟩, ⟨(some 8), (.op (.mv (.t 21))), none⟩, ⟨(some 9), (.op (.mv (.t 22))), none⟩])
  (.seq (.seq (.reg [⟨(some 23), (.call (.f 9) []), none⟩, ⟨(some 24), (.op (.un .not (.t 23))), none⟩, ⟨(some 25), (.op (.mv (.t 24))), none⟩, ⟨(some 26), (.op (.mv (.t 9))), (some (25, false))⟩, ⟨(some 27), (.op (.un .not (.t 26))), (some (25, false))⟩, ⟨(some 28), (.op (.pick (.t 25) (.k (.bool true)) (.t 27))), none⟩])
  (.cond (.t 28) (.seq (.reg [⟨(some 6), (.op (.mv (.k (.bool false)))), none⟩])
  .ret)
  .skip))
  (.seq (.dreg (.quiet ⟨(some 29), (.op (.mv (.t 1))), none⟩ (.quiet ⟨(some 30), (.op (.conv (.int .i64) (.t 29))), none⟩ (.quiet ⟨(some 31), (.op (.bin .rem (.t 30) (.k (.int .i64 4)))), none⟩ (.quiet ⟨(some 32), (.op (.mv (.t 2))), none⟩ (.quiet ⟨(some 33), (.op (.conv (.int .i64) (.t 32))), none⟩ (.quiet ⟨(some 34), (.op (.mv (.t 7))), none⟩ (.loud ⟨(some 35), (.call (.f 10) [(.t 34)]), none⟩ [] (.quiet ⟨(some 36), (.op (.bin .rem (.t 33) (.t 35))), none⟩ (.loud ⟨(some 10), (.op (.mv (.t 31))), none⟩ [] (.loud ⟨(some 11), (.op (.mv (.t 36))), none⟩ [] .nil)))))))))))
  (.seq (.reg [⟨(some 37), (.op (.mv (.t 7))), none⟩, ⟨(some 38), (.op (.mv (.t 11))), none⟩, ⟨(some 39), (.call (.f 11) [(.t 37), (.t 38)]), none⟩, ⟨(some 12), (.op (.mv (.t 39))), none⟩])
  (.seq (.reg [⟨(some 41), (.op (.mv (.t 7))), none⟩, ⟨(some 42), (.op (.mv (.t 11))), none⟩, ⟨(some 43), (.call (.f 12) [(.t 41), (.t 42)]), none⟩, ⟨(some 40), (.op (.mv (.t 43))), none⟩, ⟨(some 44), (.op (.extract (.t 40) 0)), none⟩, ⟨(some 45), (.op (.extract (.t 40) 1)), none⟩, ⟨(some 13), (.op (.mv (.t 44))), none⟩, ⟨(some 14), (.op (.mv (.t 45))), none⟩])
  (.seq (.reg [⟨(some 46), (.op (.mv (.t 7))), none⟩, ⟨(some 47), (.op (.mv (.t 10))), none⟩, ⟨(some 48), (.op (.mv (.t 11))), none⟩, ⟨(some 49), (.call (.f 13) [(.t 46), (.t 47), (.t 48)]), none⟩, ⟨(some 15), (.op (.mv (.t 49))), none⟩])
  (.seq (.block 0 (.seq (.reg [⟨(some 51), (.op (.mv (.t 14))), none⟩, ⟨(some 52), (.op (.mv (.t 51))), none⟩, ⟨(some 53), (.op (.mv (.t 13))), (some (52, true))⟩, ⟨(some 54), (.op (.mv (.t 10))), (some (52, true))⟩, ⟨(some 55), (.op (.bin .eql (.t 53) (.t 54))), (some (52, true))⟩, ⟨(some 56), (.op (.pick (.t 52) (.t 55) (.k (.bool false)))), none⟩, ⟨(some 50), (.op (.mv (.t 56))), none⟩])
  (.cond (.t 50) (.seq (.reg [⟨(some 57), (.op (.mv (.t 15))), none⟩, ⟨(some 58), (.op (.bin .neq (.t 57) (.k (.int .i64 6)))), none⟩])
  (.cond (.t 58) (.seq (.reg [⟨(some 6), (.op (.mv (.k (.bool false)))), none⟩])
  .ret)
  .skip))
  (.seq (.reg [⟨(some 60), (.op (.mv (.t 14))), none⟩, ⟨(some 59), (.op (.mv (.t 60))), none⟩])
  (.cond (.t 59) (.seq (.reg [⟨(some 61), (.op (.mv (.t 15))), none⟩, ⟨(some 62), (.op (.bin .eql (.t 61) (.k (.int .i64 7)))), none⟩, ⟨(some 63), (.op (.mv (.t 62))), none⟩, ⟨(some 64), (.op (.mv (.t 7))), (some (63, true))⟩, ⟨(some 65), (.op (.mv (.t 10))), (some (63, true))⟩, ⟨(some 66), (.op (.mv (.t 11))), (some (63, true))⟩, ⟨(some 67), (.op (.mv (.t 12))), (some (63, true))⟩, ⟨(some 68), (.call (.f 14) [(.t 64), (.t 65), (.t 66), (.t 67)]), (some (63, true))⟩, ⟨(some 69), (.op (.bin .neq (.t 68) (.k (.int .i64 0)))), (some (63, true))⟩, ⟨(some 70), (.op (.pick (.t 63) (.t 69) (.k (.bool false)))), none⟩, ⟨(some 71), (.op (.mv (.t 70))), none⟩, ⟨(some 72), (.op (.mv (.t 7))), (some (71, true))⟩, ⟨(some 73), (.op (.mv (.t 10))), (some (71, true))⟩, ⟨(some 74), (.op (.mv (.t 11))), (some (71, true))⟩, ⟨(some 75), (.call (.f 15) [(.t 72), (.t 73), (.t 74)]), (some (71, true))⟩, ⟨(some 76), (.op (.bin .neq (.t 75) (.k (.int .i64 0)))), (some (71, true))⟩, ⟨(some 77), (.op (.pick (.t 71) (.t 76) (.k (.bool false)))), none⟩, ⟨(some 6), (.op (.mv (.t 77))), none⟩])
  .ret)
  (.seq (.reg [⟨(some 79), (.op (.mv (.t 15))), none⟩, ⟨(some 80), (.op (.bin .neq (.t 79) (.k (.int .i64 0)))), none⟩, ⟨(some 78), (.op (.mv (.t 80))), none⟩])
  (.cond (.t 78) (.seq (.reg [⟨(some 6), (.op (.mv (.k (.bool false)))), none⟩])
  .ret)
  .skip)))))))
  (.seq (.reg [⟨(some 81), (.op (.mv (.t 7))), none⟩, ⟨(some 82), (.op (.mv (.t 10))), none⟩, ⟨(some 83), (.call (.f 16) [(.t 81), (.t 82)]), none⟩, ⟨(some 84), (.op (.lenS (.t 83))), none⟩, ⟨(some 16), (.op (.mv (.t 84))), none⟩])
  (.seq (.reg [⟨(some 85), (.op (.mv (.t 7))), none⟩, ⟨(some 86), (.op (.mv (.t 10))), none⟩, ⟨(some 87), (.call (.f 17) [(.t 85), (.t 86)]), none⟩, ⟨(some 88), (.op (.mv (.t 16))), none⟩, ⟨(some 89), (.op (.bin .eql (.t 87) (.t 88))), none⟩, ⟨(some 90), (.op (.mv (.t 89))), none⟩, ⟨(some 91), (.op (.mv (.t 16))), (some (90, true))⟩, ⟨(some 92), (.op (.bin .gtr (.t 91) (.k (.int .i64 0)))), (some (90, true))⟩, ⟨(some 93), (.op (.pick (.t 90) (.t 92) (.k (.bool false)))), none⟩, ⟨(some 94), (.op (.mv (.t 93))), none⟩, ⟨(some 95), (.op (.mv (.t 7))), (some (94, true))⟩, ⟨(some 96), (.op (.mv (.t 10))), (some (94, true))⟩, ⟨(some 97), (.call (.f 16) [(.t 95), (.t 96)]), (some (94, true))⟩, ⟨(some 98), (.op (.lenS (.t 97))), (some (94, true))⟩, ⟨(some 99), (.op (.bin .eql (.t 98) (.k (.int .i64 0)))), (some (94, true))⟩, ⟨(some 100), (.op (.pick (.t 94) (.t 99) (.k (.bool false)))), none⟩, ⟨(some 101), (.op (.mv (.t 100))), none⟩, ⟨(some 102), (.op (.mv (.t 7))), (some (101, true))⟩, ⟨(some 103), (.op (.mv (.t 11))), (some (101, true))⟩, ⟨(some 104), (.call (.f 11) [(.t 102), (.t 103)]), (some (101, true))⟩, ⟨(some 105), (.op (.mv (.t 12))), (some (101, true))⟩, ⟨(some 106), (.op (.bin .eql (.t 104) (.t 105))), (some (101, true))⟩, ⟨(some 107), (.op (.pick (.t 101) (.t 106) (.k (.bool false)))), none⟩, ⟨(some 6), (.op (.mv (.t 107))), none⟩])
  .ret))))))))))
def a3 : AF := ⟨108, [(.t 6)], .code b3, none⟩
theorem ok3 : AFOk Try.prog ext 3 a3 := .of Try.func3 (by kernel_rfl) (by kernel_rfl) (by kernel_rfl) (by kernel_rfl)
/-! 4: rowlock/rowlocklaw04.StripesRise -/
def b4 : AC :=
  (.seq (.reg [⟨(some 4), (.op (.mv (.k (.bool false)))), none⟩])
  (.seq (.reg [⟨(some 15), (.op (.mv (.t 0))), none⟩, ⟨(some 16), (.call (.f 8) [(.t 15), (.k (.slice none 0 0))]), none⟩, ⟨(some 14), (.op (.mv (.t 16))), none⟩, ⟨(some 17), (.op (.extract (.t 14) 0)), none⟩, ⟨(some 18), (.op (.extract (.t 14) 1)), none⟩, ⟨(some 19), (.op (.extract (.t 14) 2)), none⟩, ⟨(some 5), (.op (.mv (.t 17))), none⟩, ⟨(some 6), (.op (.mv (.t 18))), none⟩, ⟨(some 7), (.op (.mv (.t 19))), none⟩])
  (.seq (.seq (.reg [⟨(some 20), (.call (.f 9) []), none⟩, ⟨(some 21), (.op (.un .not (.t 20))), none⟩, ⟨(some 22), (.op (.mv (.t 21))), none⟩, ⟨(some 23), (.op (.mv (.t 7))), (some (22, false))⟩, ⟨(some 24), (.op (.un .not (.t 23))), (some (22, false))⟩, ⟨(some 25), (.op (.pick (.t 22) (.k (.bool true)) (.t 24))), none⟩])
  (.cond (.t 25) (.seq (.reg [⟨(some 4), (.op (.mv (.k (.bool false)))), none⟩])
  .ret)
  .skip))
  (.seq (.reg [⟨(some 26), (.op (.mv (.t 0))), none⟩, ⟨(some 27), (.op (.conv (.int .i64) (.t 26))), none⟩, ⟨(some 28), (.op (.bin .rem (.t 27) (.k (.int .i64 8)))), none⟩, ⟨(some 29), (.op (.bin .add (.t 28) (.k (.int .i64 1)))), none⟩, ⟨(some 30), (.call (.f 18) [(.t 29)]), none⟩, ⟨(some 8), (.op (.mv (.t 30))), none⟩])
  (.seq (.seq (.reg [⟨(some 9), (.op (.mv (.k (.int .i64 0)))), none⟩])
  (.block 0 (.loop (.seq (.seq (.reg [⟨(some 31), (.op (.mv (.t 9))), none⟩, ⟨(some 32), (.op (.mv (.t 1))), none⟩, ⟨(some 33), (.op (.lenS (.t 32))), none⟩, ⟨(some 34), (.op (.bin .lss (.t 31) (.t 33))), none⟩, ⟨(some 35), (.op (.mv (.t 34))), none⟩, ⟨(some 36), (.op (.mv (.t 9))), (some (35, true))⟩, ⟨(some 37), (.op (.bin .lss (.t 36) (.k (.int .i64 60)))), (some (35, true))⟩, ⟨(some 38), (.op (.pick (.t 35) (.t 37) (.k (.bool false)))), none⟩])
   (.cond (.t 38) .skip
   (.exit 0)))
   (.seq (.block 1 (.seq (.reg [⟨(some 10), (.op (.alloc 41 [(.int .u64 0), (.int .u64 0), (.int .u64 0), (.int .u64 0), (.int .u64 0), (.int .u64 0), (.int .u64 0), (.int .u64 0)])), none⟩])
   (.seq (.seq (.reg [⟨(some 11), (.op (.mv (.k (.int .i64 0)))), none⟩])
   (.block 2 (.loop (.seq (.seq (.reg [⟨(some 41), (.op (.mv (.t 11))), none⟩, ⟨(some 42), (.op (.mv (.t 5))), none⟩, ⟨(some 43), (.call (.f 10) [(.t 42)]), none⟩, ⟨(some 44), (.op (.bin .lss (.t 41) (.t 43))), none⟩, ⟨(some 45), (.op (.mv (.t 44))), none⟩, ⟨(some 46), (.op (.mv (.t 11))), (some (45, true))⟩, ⟨(some 47), (.op (.bin .lss (.t 46) (.k (.int .i64 8)))), (some (45, true))⟩, ⟨(some 48), (.op (.pick (.t 45) (.t 47) (.k (.bool false)))), none⟩])
    (.cond (.t 48) .skip
    (.exit 2)))
    (.seq (.block 3 (.reg [⟨(some 51), (.op (.mv (.t 11))), none⟩, ⟨(some 52), (.op (.mv (.t 5))), none⟩, ⟨(some 53), (.op (.mv (.t 11))), none⟩, ⟨(some 54), (.call (.f 11) [(.t 52), (.t 53)]), none⟩, ⟨(some 55), (.op (.iaddrA 8 1 (.t 10) (.t 51))), none⟩, ⟨none, (.op (.store 1 (.t 55) (.t 54))), none⟩]))
    (.reg [⟨(some 49), (.op (.mv (.t 11))), none⟩, ⟨(some 50), (.op (.bin .add (.t 49) (.k (.int .i64 1)))), none⟩, ⟨(some 11), (.op (.mv (.t 50))), none⟩]))))))
   (.seq (.reg [⟨(some 56), (.op (.mv (.t 5))), none⟩, ⟨(some 57), (.call (.f 19) [(.t 56)]), none⟩, ⟨(some 12), (.op (.mv (.t 57))), none⟩])
   (.seq (.seq (.reg [⟨(some 58), (.op (.mv (.t 5))), none⟩, ⟨(some 59), (.op (.mv (.t 8))), none⟩, ⟨(some 60), (.op (.mv (.t 1))), none⟩, ⟨(some 61), (.op (.mv (.t 9))), none⟩, ⟨(some 62), (.op (.iaddrS 4 (.t 60) (.t 61))), none⟩, ⟨(some 63), (.op (.loadN 4 (.t 62))), none⟩, ⟨(some 64), (.call (.f 20) [(.t 58), (.t 59), (.t 63)]), none⟩, ⟨(some 65), (.op (.un .not (.t 64))), none⟩, ⟨(some 66), (.op (.mv (.t 65))), none⟩, ⟨(some 67), (.op (.mv (.t 5))), (some (66, false))⟩, ⟨(some 68), (.call (.f 19) [(.t 67)]), (some (66, false))⟩, ⟨(some 69), (.op (.mv (.t 12))), (some (66, false))⟩, ⟨(some 70), (.op (.bin .lss (.t 68) (.t 69))), (some (66, false))⟩, ⟨(some 71), (.op (.pick (.t 66) (.k (.bool true)) (.t 70))), none⟩])
   (.cond (.t 71) (.seq (.reg [⟨(some 4), (.op (.mv (.k (.bool false)))), none⟩])
   .ret)
   .skip))
   (.seq (.reg [⟨(some 13), (.op (.mv (.k (.int .i64 0)))), none⟩])
   (.block 4 (.loop (.seq (.seq (.reg [⟨(some 72), (.op (.mv (.t 13))), none⟩, ⟨(some 73), (.op (.mv (.t 5))), none⟩, ⟨(some 74), (.call (.f 10) [(.t 73)]), none⟩, ⟨(some 75), (.op (.bin .lss (.t 72) (.t 74))), none⟩, ⟨(some 76), (.op (.mv (.t 75))), none⟩, ⟨(some 77), (.op (.mv (.t 13))), (some (76, true))⟩, ⟨(some 78), (.op (.bin .lss (.t 77) (.k (.int .i64 8)))), (some (76, true))⟩, ⟨(some 79), (.op (.pick (.t 76) (.t 78) (.k (.bool false)))), none⟩])
    (.cond (.t 79) .skip
    (.exit 4)))
    (.seq (.block 5 (.seq (.dreg (.quiet ⟨(some 82), (.op (.mv (.t 5))), none⟩ (.quiet ⟨(some 83), (.op (.mv (.t 13))), none⟩ (.quiet ⟨(some 85), (.op (.mv (.t 13))), none⟩ (.quiet ⟨(some 86), (.op (.iaddrA 8 1 (.t 10) (.t 85))), none⟩ (.quiet ⟨(some 87), (.op (.load (.t 86))), none⟩ (.loud ⟨(some 84), (.call (.f 11) [(.t 82), (.t 83)]), none⟩ [⟨(some 87), (.op (.load (.t 86))), none⟩] (.quiet ⟨(some 88), (.op (.bin .lss (.t 84) (.t 87))), none⟩ (.quiet ⟨(some 89), (.op (.mv (.t 88))), none⟩ (.quiet ⟨(some 90), (.op (.mv (.t 5))), (some (89, false))⟩ (.quiet ⟨(some 91), (.op (.mv (.t 13))), (some (89, false))⟩ (.quiet ⟨(some 93), (.op (.mv (.t 5))), (some (89, false))⟩ (.loud ⟨(some 92), (.call (.f 11) [(.t 90), (.t 91)]), (some (89, false))⟩ [] (.loud ⟨(some 94), (.call (.f 19) [(.t 93)]), (some (89, false))⟩ [] (.quiet ⟨(some 95), (.op (.bin .gtr (.t 92) (.t 94))), (some (89, false))⟩ (.quiet ⟨(some 96), (.op (.pick (.t 89) (.k (.bool true)) (.t 95))), none⟩ .nil))))))))))))))))
    (.cond (.t 96) (.seq (.reg [⟨(some 4), (.op (.mv (.k (.bool false)))), none⟩])
    .ret)
    .skip)))
    (.reg [⟨(some 80), (.op (.mv (.t 13))), none⟩, ⟨(some 81), (.op (.bin .add (.t 80) (.k (.int .i64 1)))), none⟩, ⟨(some 13), (.op (.mv (.t 81))), none⟩])))))))))))
   (.reg [⟨(some 39), (.op (.mv (.t 9))), none⟩, ⟨(some 40), (.op (.bin .add (.t 39) (.k (.int .i64 1)))), none⟩, ⟨(some 9), (.op (.mv (.t 40))), none⟩]))))))
  (.seq (.reg [⟨(some 4), (.op (.mv (.k (.bool true)))), none⟩])
  .ret))))))
def a4 : AF := ⟨97, [(.t 4)], .code b4, none⟩
theorem ok4 : AFOk Try.prog ext 4 a4 := .of Try.func4 (by kernel_rfl) (by kernel_rfl) (by kernel_rfl) (by kernel_rfl)
/-! 5: rowlock/rowlocklaw04.StripesPlays -/
def b5 : AC :=
  (.seq (.reg [⟨(some 4), (.op (.mv (.k (.bool false)))), none⟩])
  (.seq (.reg [⟨(some 9), (.op (.mv (.t 0))), none⟩, ⟨(some 10), (.op (.mv (.t 1))), none⟩, ⟨(some 11), (.call (.f 8) [(.t 9), (.t 10)]), none⟩, ⟨(some 8), (.op (.mv (.t 11))), none⟩, ⟨(some 12), (.op (.extract (.t 8) 0)), none⟩, ⟨(some 13), (.op (.extract (.t 8) 1)), none⟩, ⟨(some 14), (.op (.extract (.t 8) 2)), none⟩, ⟨(some 5), (.op (.mv (.t 12))), none⟩, ⟨(some 6), (.op (.mv (.t 13))), none⟩, ⟨(some 7), (.op (.mv (.t 14))), none⟩])
  (.seq (.reg [⟨(some 15), (.call (.f 9) []), none⟩, ⟨(some 16), (.op (.mv (.t 15))), none⟩, ⟨(some 17), (.op (.mv (.t 7))), (some (16, true))⟩, ⟨(some 18), (.op (.pick (.t 16) (.t 17) (.k (.bool false)))), none⟩, ⟨(some 19), (.op (.mv (.t 18))), none⟩, ⟨(some 20), (.op (.mv (.t 5))), (some (19, true))⟩, ⟨(some 21), (.op (.mv (.t 6))), (some (19, true))⟩, ⟨(some 22), (.call (.f 21) [(.t 20), (.t 21)]), (some (19, true))⟩, ⟨(some 23), (.op (.pick (.t 19) (.t 22) (.k (.bool false)))), none⟩, ⟨(some 4), (.op (.mv (.t 23))), none⟩])
  .ret)))
def a5 : AF := ⟨24, [(.t 4)], .code b5, none⟩
theorem ok5 : AFOk Try.prog ext 5 a5 := .of Try.func5 (by kernel_rfl) (by kernel_rfl) (by kernel_rfl) (by kernel_rfl)
/-! 6: rowlock/rowlocklaw04.StripesForks -/
def b6 : AC :=
  (.seq (.reg [⟨(some 6), (.op (.mv (.k (.bool false)))), none⟩])
  (.seq (.reg [⟨(some 14), (.op (.mv (.t 0))), none⟩, ⟨(some 15), (.op (.mv (.t 1))), none⟩, ⟨(some 16), (.call (.f 8) [(.t 14), (.t 15)]), none⟩, ⟨(some 13), (.op (.mv (.t 16))), none⟩, ⟨(some 17), (.op (.extract (.t 13) 0)), none⟩, ⟨(some 18), (.op (.extract (.t 13) 1)), none⟩, ⟨(some 19), (.op (.extract (.t 13) 2)), none⟩, ⟨(some 7), (.op (.mv (.t 17))), none⟩, ⟨(some 8), (.op (.mv (.t 18))), none⟩, ⟨(some 9), (.op (.mv (.t 19))), none⟩])
  (.seq (.seq (.reg [⟨(some 20), (.call (.f 9) []), none⟩, ⟨(some 21), (.op (.un .not (.t 20))), none⟩, ⟨(some 22), (.op (.mv (.t 21))), none⟩, ⟨(some 23), (.op (.mv (.t 9))), (some (22, false))⟩, ⟨(some 24), (.op (.un .not (.t 23))), (some (22, false))⟩, ⟨(some 25), (.op (.pick (.t 22) (.k (.bool true)) (.t 24))), none⟩])
  (.cond (.t 25) (.seq (.reg [⟨(some 6), (.op (.mv (.k (.bool false)))), none⟩])
  .ret)
  .skip))
  (.seq (.reg [⟨(some 26), (.op (.mv (.t 7))), none⟩, ⟨(some 27), (.call (.f 22) [(.t 26)]), none⟩, ⟨(some 28), (.op (.mv (.t 8))), none⟩, ⟨(some 29), (.call (.f 23) [(.t 28)]), none⟩, ⟨(some 10), (.op (.mv (.t 27))), none⟩, ⟨(some 11), (.op (.mv (.t 29))), none⟩])
  (.seq (.seq (.reg [⟨(some 12), (.op (.mv (.k (.int .i64 0)))), none⟩])
  (.block 0 (.loop (.seq (.seq (.reg [⟨(some 30), (.op (.mv (.t 12))), none⟩, ⟨(some 31), (.op (.mv (.t 2))), none⟩, ⟨(some 32), (.op (.lenS (.t 31))), none⟩, ⟨(some 33), (.op (.bin .lss (.t 30) (.t 32))), none⟩, ⟨(some 34), (.op (.mv (.t 33))), none⟩, ⟨(some 35), (.op (.mv (.t 12))), (some (34, true))⟩, ⟨(some 36), (.op (.bin .lss (.t 35) (.k (.int .i64 14)))), (some (34, true))⟩, ⟨(some 37), (.op (.pick (.t 34) (.t 36) (.k (.bool false)))), none⟩])
   (.cond (.t 37) .skip
   (.exit 0)))
   (.seq (.block 1 (.seq (.reg [⟨(some 40), (.op (.mv (.t 10))), none⟩, ⟨(some 41), (.op (.mv (.t 11))), none⟩, ⟨(some 42), (.op (.mv (.t 2))), none⟩, ⟨(some 43), (.op (.mv (.t 12))), none⟩, ⟨(some 44), (.op (.iaddrS 4 (.t 42) (.t 43))), none⟩, ⟨(some 45), (.op (.loadN 4 (.t 44))), none⟩, ⟨(some 46), (.call (.f 20) [(.t 40), (.t 41), (.t 45)]), none⟩, ⟨(some 47), (.op (.un .not (.t 46))), none⟩])
   (.cond (.t 47) (.seq (.reg [⟨(some 6), (.op (.mv (.k (.bool false)))), none⟩])
   .ret)
   .skip)))
   (.reg [⟨(some 38), (.op (.mv (.t 12))), none⟩, ⟨(some 39), (.op (.bin .add (.t 38) (.k (.int .i64 1)))), none⟩, ⟨(some 12), (.op (.mv (.t 39))), none⟩]))))))
  (.seq (.reg [⟨(some 48), (.op (.mv (.t 7))), none⟩, ⟨(some 49), (.op (.mv (.t 8))), none⟩, ⟨(some 50), (.call (.f 21) [(.t 48), (.t 49)]), none⟩, ⟨(some 51), (.op (.mv (.t 50))), none⟩, ⟨(some 52), (.op (.mv (.t 10))), (some (51, true))⟩, ⟨(some 53), (.op (.mv (.t 11))), (some (51, true))⟩, ⟨(some 54), (.call (.f 21) [(.t 52), (.t 53)]), (some (51, true))⟩, ⟨(some 55), (.op (.pick (.t 51) (.t 54) (.k (.bool false)))), none⟩, ⟨(some 6), (.op (.mv (.t 55))), none⟩])
  .ret))))))
def a6 : AF := ⟨56, [(.t 6)], .code b6, none⟩
theorem ok6 : AFOk Try.prog ext 6 a6 := .of Try.func6 (by kernel_rfl) (by kernel_rfl) (by kernel_rfl) (by kernel_rfl)
/-! 7: rowlock/rowlocklaw04.StripesOf -/
def b7 : AC :=
  (.seq (.reg [⟨(some 6), (.op (.mv (.k (.bool false)))), none⟩])
  (.seq (.seq (.reg [⟨(some 10), (.op (.mv (.t 2))), none⟩, ⟨(some 11), (.op (.lenS (.t 10))), none⟩, ⟨(some 12), (.op (.bin .gtr (.t 11) (.k (.int .i64 20)))), none⟩])
  (.cond (.t 12) (.reg [⟨(some 13), (.op (.mv (.t 2))), none⟩, ⟨(some 14), (.op (.slice 1 (.t 13) none (some (.k (.int .i64 20))) none)), none⟩, ⟨(some 2), (.op (.mv (.t 14))), none⟩])
  .skip))
  (.seq (.reg [⟨(some 16), (.op (.mv (.t 0))), none⟩, ⟨(some 17), (.call (.f 8) [(.t 16), (.k (.slice none 0 0))]), none⟩, ⟨(some 15), (.op (.mv (.t 17))), none⟩, ⟨(some 18), (.op (.extract (.t 15) 0)), none⟩, ⟨(some 19), (.op (.extract (.t 15) 1)), none⟩, ⟨(some 20), (.op (.extract (.t 15) 2)), none⟩, ⟨(some 7), (.op (.mv (.t 18))), none⟩, ⟨(some 8), (.op (.mv (.t 19))), none⟩, ⟨(some 9), (.op (.mv (.t 20))), none⟩])
  (.seq (.reg [⟨(some 21), (.call (.f 9) []), none⟩, ⟨(some 22), (.op (.mv (.t 21))), none⟩, ⟨(some 23), (.op (.mv (.t 9))), (some (22, true))⟩, ⟨(some 24), (.op (.pick (.t 22) (.t 23) (.k (.bool false)))), none⟩, ⟨(some 25), (.op (.mv (.t 24))), none⟩, ⟨(some 26), (.op (.mv (.t 7))), (some (25, true))⟩, ⟨(some 27), (.op (.mv (.t 1))), (some (25, true))⟩, ⟨(some 28), (.call (.f 24) [(.t 26), (.t 27)]), (some (25, true))⟩, ⟨(some 29), (.op (.mv (.t 8))), (some (25, true))⟩, ⟨(some 30), (.op (.mv (.t 1))), (some (25, true))⟩, ⟨(some 31), (.call (.f 25) [(.t 29), (.t 30)]), (some (25, true))⟩, ⟨(some 32), (.op (.bin .eql (.t 28) (.t 31))), (some (25, true))⟩, ⟨(some 33), (.op (.pick (.t 25) (.t 32) (.k (.bool false)))), none⟩, ⟨(some 34), (.op (.mv (.t 33))), none⟩, ⟨(some 35), (.op (.mv (.t 7))), (some (34, true))⟩, ⟨(some 36), (.op (.mv (.t 2))), (some (34, true))⟩, ⟨(some 37), (.call (.f 27) [(.t 35), (.t 36)]), (some (34, true))⟩, ⟨(some 38), (.op (.mv (.t 8))), (some (34, true))⟩, ⟨(some 39), (.op (.mv (.t 2))), (some (34, true))⟩, ⟨(some 40), (.call (.f 28) [(.t 38), (.t 39)]), (some (34, true))⟩, ⟨(some 41), (.call (.f 26) [(.t 37), (.t 40)]), (some (34, true))⟩, ⟨(some 42), (.op (.pick (.t 34) (.t 41) (.k (.bool false)))), none⟩, ⟨(some 43), (.op (.mv (.t 42))), none⟩, ⟨(some 44), (.op (.mv (.t 1))), (some (43, true))⟩, ⟨(some 45), (.op (.bin .lss (.t 44) (.k (.int .i64 0)))), (some (43, true))⟩, ⟨(some 46), (.op (.mv (.t 45))), (some (43, true))⟩, ⟨(some 47), (.op (.mv (.t 1))), (some (46, false))⟩, ⟨(some 48), (.op (.bin .geq (.t 47) (.k (.int .i64 12)))), (some (46, false))⟩, ⟨(some 49), (.op (.pick (.t 46) (.k (.bool true)) (.t 48))), (some (43, true))⟩, ⟨(some 50), (.op (.mv (.t 49))), (some (43, true))⟩, ⟨(some 51), (.op (.mv (.t 7))), (some (50, false))⟩, ⟨(some 52), (.op (.mv (.t 1))), (some (50, false))⟩, ⟨(some 53), (.call (.f 24) [(.t 51), (.t 52)]), (some (50, false))⟩, ⟨(some 54), (.op (.bin .geq (.t 53) (.k (.int .i64 0)))), (some (50, false))⟩, ⟨(some 55), (.op (.mv (.t 54))), (some (50, false))⟩, ⟨(some 56), (.op (.mv (.t 7))), (some (55, true))⟩, ⟨(some 57), (.op (.mv (.t 1))), (some (55, true))⟩, ⟨(some 58), (.call (.f 24) [(.t 56), (.t 57)]), (some (55, true))⟩, ⟨(some 59), (.op (.mv (.t 7))), (some (55, true))⟩, ⟨(some 60), (.call (.f 10) [(.t 59)]), (some (55, true))⟩, ⟨(some 61), (.op (.bin .lss (.t 58) (.t 60))), (some (55, true))⟩, ⟨(some 62), (.op (.pick (.t 55) (.t 61) (.k (.bool false)))), (some (50, false))⟩, ⟨(some 63), (.op (.pick (.t 50) (.k (.bool true)) (.t 62))), (some (43, true))⟩, ⟨(some 64), (.op (.pick (.t 43) (.t 63) (.k (.bool false)))), none⟩, ⟨(some 6), (.op (.mv (.t 64))), none⟩])
  .ret))))
def a7 : AF := ⟨65, [(.t 6)], .code b7, none⟩
theorem ok7 : AFOk Try.prog ext 7 a7 := .of Try.func7 (by kernel_rfl) (by kernel_rfl) (by kernel_rfl) (by kernel_rfl)
/-! 8: rowlock/rowlocklaw04.play -/
def b8 : AC :=
  (.seq (.reg [⟨(some 4), (.op (.mv (.k (.pointer none)))), none⟩, ⟨(some 5), (.op (.mv (.k (.pointer none)))), none⟩, ⟨(some 6), (.op (.mv (.k (.bool false)))), none⟩])
  (.seq (.reg [⟨(some 11), (.op (.mv (.t 0))), none⟩, ⟨(some 12), (.op (.conv (.int .i64) (.t 11))), none⟩, ⟨(some 13), (.op (.bin .rem (.t 12) (.k (.int .i64 8)))), none⟩, ⟨(some 14), (.op (.bin .add (.t 13) (.k (.int .i64 1)))), none⟩, ⟨(some 7), (.op (.mv (.t 14))), none⟩])
  (.seq (.reg [⟨(some 15), (.op (.mv (.t 7))), none⟩, ⟨(some 16), (.call (.f 29) [(.t 15)]), none⟩, ⟨(some 17), (.op (.mv (.t 7))), none⟩, ⟨(some 18), (.call (.f 18) [(.t 17)]), none⟩, ⟨(some 8), (.op (.mv (.t 16))), none⟩, ⟨(some 9), (.op (.mv (.t 18))), none⟩])
  (.seq (.seq (.reg [⟨(some 10), (.op (.mv (.k (.int .i64 0)))), none⟩])
  (.block 0 (.loop (.seq (.seq (.reg [⟨(some 19), (.op (.mv (.t 10))), none⟩, ⟨(some 20), (.op (.mv (.t 1))), none⟩, ⟨(some 21), (.op (.lenS (.t 20))), none⟩, ⟨(some 22), (.op (.bin .lss (.t 19) (.t 21))), none⟩, ⟨(some 23), (.op (.mv (.t 22))), none⟩, ⟨(some 24), (.op (.mv (.t 10))), (some (23, true))⟩, ⟨(some 25), (.op (.bin .lss (.t 24) (.k (.int .i64 60)))), (some (23, true))⟩, ⟨(some 26), (.op (.pick (.t 23) (.t 25) (.k (.bool false)))), none⟩])
   (.cond (.t 26) .skip
   (.exit 0)))
   (.seq (.block 1 (.seq (.reg [⟨(some 29), (.op (.mv (.t 8))), none⟩, ⟨(some 30), (.op (.mv (.t 9))), none⟩, ⟨(some 31), (.op (.mv (.t 1))), none⟩, ⟨(some 32), (.op (.mv (.t 10))), none⟩, ⟨(some 33), (.op (.iaddrS 4 (.t 31) (.t 32))), none⟩, ⟨(some 34), (.op (.loadN 4 (.t 33))), none⟩, ⟨(some 35), (.call (.f 20) [(.t 29), (.t 30), (.t 34)]), none⟩, ⟨(some 36), (.op (.un .not (.t 35))), none⟩])
   (.cond (.t 36) (.seq (.reg [⟨(some 37), (.op (.mv (.t 8))), none⟩, ⟨(some 38), (.op (.mv (.t 9))), none⟩, ⟨(some 4), (.op (.mv (.t 37))), none⟩, ⟨(some 5), (.op (.mv (.t 38))), none⟩, ⟨(some 6), (.op (.mv (.k (.bool false)))), none⟩])
   .ret)
   .skip)))
   (.reg [⟨(some 27), (.op (.mv (.t 10))), none⟩, ⟨(some 28), (.op (.bin .add (.t 27) (.k (.int .i64 1)))), none⟩, ⟨(some 10), (.op (.mv (.t 28))), none⟩]))))))
  (.seq (.reg [⟨(some 39), (.op (.mv (.t 8))), none⟩, ⟨(some 40), (.op (.mv (.t 9))), none⟩, ⟨(some 41), (.op (.mv (.t 8))), none⟩, ⟨(some 42), (.op (.eq true .ptr (.t 41) (.k (.pointer none)))), none⟩, ⟨(some 43), (.op (.mv (.t 42))), none⟩, ⟨(some 44), (.op (.mv (.t 9))), (some (43, true))⟩, ⟨(some 45), (.op (.eq true .ptr (.t 44) (.k (.pointer none)))), (some (43, true))⟩, ⟨(some 46), (.op (.pick (.t 43) (.t 45) (.k (.bool false)))), none⟩, ⟨(some 4), (.op (.mv (.t 39))), none⟩, ⟨(some 5), (.op (.mv (.t 40))), none⟩, ⟨(some 6), (.op (.mv (.t 46))), none⟩])
  .ret)))))
def a8 : AF := ⟨47, [(.t 4), (.t 5), (.t 6)], .code b8, none⟩
theorem ok8 : AFOk Try.prog ext 8 a8 := .of Try.func8 (by kernel_rfl) (by kernel_rfl) (by kernel_rfl) (by kernel_rfl)
/-! 9: rowlock/rowlocklaw04.live -/
def b9 : AC :=
  (.seq (.reg [⟨(some 0), (.op (.mv (.k (.bool false)))), none⟩])
  (.seq (.reg [⟨(some 8), (.call (.f 29) [(.k (.int .i64 4))]), none⟩, ⟨(some 1), (.op (.mv (.t 8))), none⟩])
  (.seq (.reg [⟨(some 9), (.op (.mv (.t 1))), none⟩, ⟨(some 10), (.call (.f 13) [(.t 9), (.k (.int .i64 0)), (.k (.int .i64 1))]), none⟩, ⟨(some 2), (.op (.mv (.t 10))), none⟩])
  (.seq (.reg [⟨(some 12), (.op (.mv (.t 1))), none⟩, ⟨(some 13), (.call (.f 30) [(.t 12)]), none⟩, ⟨(some 11), (.op (.mv (.t 13))), none⟩, ⟨(some 14), (.op (.extract (.t 11) 0)), none⟩, ⟨(some 15), (.op (.extract (.t 11) 1)), none⟩, ⟨(some 3), (.op (.mv (.t 14))), none⟩, ⟨(some 4), (.op (.mv (.t 15))), none⟩])
  (.seq (.reg [⟨(some 17), (.op (.mv (.t 1))), none⟩, ⟨(some 18), (.call (.f 12) [(.t 17), (.k (.int .i64 1))]), none⟩, ⟨(some 16), (.op (.mv (.t 18))), none⟩, ⟨(some 19), (.op (.extract (.t 16) 0)), none⟩, ⟨(some 20), (.op (.extract (.t 16) 1)), none⟩, ⟨(some 5), (.op (.mv (.t 19))), none⟩, ⟨(some 6), (.op (.mv (.t 20))), none⟩])
  (.seq (.reg [⟨(some 21), (.op (.mv (.t 1))), none⟩, ⟨(some 22), (.call (.f 14) [(.t 21), (.k (.int .i64 0)), (.k (.int .i64 1)), (.k (.int .u64 1))]), none⟩, ⟨(some 7), (.op (.mv (.t 22))), none⟩])
  (.seq (.reg [⟨(some 23), (.op (.mv (.t 1))), none⟩, ⟨(some 24), (.call (.f 24) [(.t 23), (.k (.int .i64 2))]), none⟩, ⟨(some 25), (.op (.bin .eql (.t 24) (.k (.int .i64 1)))), none⟩, ⟨(some 26), (.op (.mv (.t 25))), none⟩, ⟨(some 27), (.op (.mv (.t 2))), (some (26, true))⟩, ⟨(some 28), (.op (.bin .eql (.t 27) (.k (.int .i64 0)))), (some (26, true))⟩, ⟨(some 29), (.op (.pick (.t 26) (.t 28) (.k (.bool false)))), none⟩, ⟨(some 30), (.op (.mv (.t 29))), none⟩, ⟨(some 31), (.op (.mv (.t 3))), (some (30, true))⟩, ⟨(some 32), (.op (.bin .eql (.t 31) (.k (.int .u64 1)))), (some (30, true))⟩, ⟨(some 33), (.op (.pick (.t 30) (.t 32) (.k (.bool false)))), none⟩, ⟨(some 34), (.op (.mv (.t 33))), none⟩, ⟨(some 35), (.op (.mv (.t 4))), (some (34, true))⟩, ⟨(some 36), (.op (.bin .eql (.t 35) (.k (.int .i64 0)))), (some (34, true))⟩, ⟨(some 37), (.op (.pick (.t 34) (.t 36) (.k (.bool false)))), none⟩, ⟨(some 38), (.op (.mv (.t 37))), none⟩, ⟨(some 39), (.op (.mv (.t 6))), (some (38, true))⟩, ⟨(some 40), (.op (.pick (.t 38) (.t 39) (.k (.bool false)))), none⟩, ⟨(some 41), (.op (.mv (.t 40))), none⟩, ⟨(some 42), (.op (.mv (.t 5))), (some (41, true))⟩, ⟨(some 43), (.op (.bin .eql (.t 42) (.k (.int .i64 0)))), (some (41, true))⟩, ⟨(some 44), (.op (.pick (.t 41) (.t 43) (.k (.bool false)))), none⟩, ⟨(some 45), (.op (.mv (.t 44))), none⟩, ⟨(some 46), (.op (.mv (.t 7))), (some (45, true))⟩, ⟨(some 47), (.op (.bin .eql (.t 46) (.k (.int .i64 0)))), (some (45, true))⟩, ⟨(some 48), (.op (.pick (.t 45) (.t 47) (.k (.bool false)))), none⟩, ⟨(some 49), (.op (.mv (.t 48))), none⟩, ⟨(some 50), (.op (.mv (.t 1))), (some (49, true))⟩, ⟨(some 51), (.call (.f 11) [(.t 50), (.k (.int .i64 1))]), (some (49, true))⟩, ⟨(some 52), (.op (.bin .eql (.t 51) (.k (.int .u64 1)))), (some (49, true))⟩, ⟨(some 53), (.op (.pick (.t 49) (.t 52) (.k (.bool false)))), none⟩, ⟨(some 0), (.op (.mv (.t 53))), none⟩])
  .ret)))))))
def a9 : AF := ⟨54, [(.t 0)], .code b9, none⟩
theorem ok9 : AFOk Try.prog ext 9 a9 := .of Try.func9 (by kernel_rfl) (by kernel_rfl) (by kernel_rfl) (by kernel_rfl)
/-! 10: (*rowlock/stripes.Table).Size -/
def b10 : AC :=
  (.seq (.reg [⟨(some 2), (.op (.mv (.k (.int .i64 0)))), none⟩])
  (.seq (.seq (.reg [⟨(some 3), (.op (.mv (.t 0))), none⟩, ⟨(some 4), (.op (.eq false .ptr (.t 3) (.k (.pointer none)))), none⟩])
  (.cond (.t 4) (.seq (.reg [⟨(some 2), (.op (.mv (.k (.int .i64 0)))), none⟩])
  .ret)
  .skip))
  (.seq (.reg [⟨(some 5), (.op (.mv (.t 0))), none⟩, ⟨(some 6), (.op (.nilchk (.t 5))), none⟩, ⟨(some 7), (.op (.faddr 1 (.t 6))), none⟩, ⟨(some 8), (.op (.load (.t 7))), none⟩, ⟨(some 9), (.op (.lenS (.t 8))), none⟩, ⟨(some 2), (.op (.mv (.t 9))), none⟩])
  .ret)))
def a10 : AF := ⟨10, [(.t 2)], .code b10, none⟩
theorem ok10 : AFOk Try.prog ext 10 a10 := .of Try.func10 (by kernel_rfl) (by kernel_rfl) (by kernel_rfl) (by kernel_rfl)
/-! 11: (*rowlock/stripes.Table).Version -/
def b11 : AC :=
  (.seq (.reg [⟨(some 4), (.op (.mv (.k (.int .u64 0)))), none⟩])
  (.seq (.seq (.reg [⟨(some 8), (.op (.mv (.t 0))), none⟩, ⟨(some 9), (.op (.mv (.t 1))), none⟩, ⟨(some 10), (.call (.f 31) [(.t 8), (.t 9)]), none⟩, ⟨(some 11), (.op (.bin .neq (.t 10) (.k (.int .i64 0)))), none⟩])
  (.cond (.t 11) (.seq (.reg [⟨(some 4), (.op (.mv (.k (.int .u64 0)))), none⟩])
  .ret)
  .skip))
  (.seq (.reg [⟨(some 13), (.op (.mv (.t 0))), none⟩, ⟨(some 14), (.op (.nilchk (.t 13))), none⟩, ⟨(some 15), (.op (.faddr 1 (.t 14))), none⟩, ⟨(some 16), (.op (.load (.t 15))), none⟩, ⟨(some 17), (.op (.mv (.t 1))), none⟩, ⟨(some 18), (.op (.iaddrS 1 (.t 16) (.t 17))), none⟩, ⟨(some 19), (.op (.load (.t 18))), none⟩, ⟨(some 20), (.call (.f 32) [(.t 19)]), none⟩, ⟨(some 12), (.op (.mv (.t 20))), none⟩, ⟨(some 21), (.op (.extract (.t 12) 0)), none⟩, ⟨(some 22), (.op (.extract (.t 12) 1)), none⟩, ⟨(some 23), (.op (.extract (.t 12) 2)), none⟩, ⟨(some 5), (.op (.mv (.t 21))), none⟩, ⟨(some 6), (.op (.mv (.t 22))), none⟩, ⟨(some 7), (.op (.mv (.t 23))), none⟩])
  (.seq (.reg [⟨(some 24), (.op (.mv (.t 6))), none⟩, ⟨(some 4), (.op (.mv (.t 24))), none⟩])
  .ret))))
def a11 : AF := ⟨25, [(.t 4)], .code b11, none⟩
theorem ok11 : AFOk Try.prog ext 11 a11 := .of Try.func11 (by kernel_rfl) (by kernel_rfl) (by kernel_rfl) (by kernel_rfl)
/-! 12: (*rowlock/stripes.Table).Owner -/
def b12 : AC :=
  (.seq (.reg [⟨(some 4), (.op (.mv (.k (.int .i64 0)))), none⟩, ⟨(some 5), (.op (.mv (.k (.bool false)))), none⟩])
  (.seq (.seq (.reg [⟨(some 9), (.op (.mv (.t 0))), none⟩, ⟨(some 10), (.op (.mv (.t 1))), none⟩, ⟨(some 11), (.call (.f 31) [(.t 9), (.t 10)]), none⟩, ⟨(some 12), (.op (.bin .neq (.t 11) (.k (.int .i64 0)))), none⟩])
  (.cond (.t 12) (.seq (.reg [⟨(some 4), (.op (.mv (.k (.int .i64 0)))), none⟩, ⟨(some 5), (.op (.mv (.k (.bool false)))), none⟩])
  .ret)
  .skip))
  (.seq (.reg [⟨(some 14), (.op (.mv (.t 0))), none⟩, ⟨(some 15), (.op (.nilchk (.t 14))), none⟩, ⟨(some 16), (.op (.faddr 1 (.t 15))), none⟩, ⟨(some 17), (.op (.load (.t 16))), none⟩, ⟨(some 18), (.op (.mv (.t 1))), none⟩, ⟨(some 19), (.op (.iaddrS 1 (.t 17) (.t 18))), none⟩, ⟨(some 20), (.op (.load (.t 19))), none⟩, ⟨(some 21), (.call (.f 32) [(.t 20)]), none⟩, ⟨(some 13), (.op (.mv (.t 21))), none⟩, ⟨(some 22), (.op (.extract (.t 13) 0)), none⟩, ⟨(some 23), (.op (.extract (.t 13) 1)), none⟩, ⟨(some 24), (.op (.extract (.t 13) 2)), none⟩, ⟨(some 6), (.op (.mv (.t 22))), none⟩, ⟨(some 7), (.op (.mv (.t 23))), none⟩, ⟨(some 8), (.op (.mv (.t 24))), none⟩])
  (.seq (.reg [⟨(some 25), (.op (.mv (.t 6))), none⟩, ⟨(some 26), (.op (.max (.t 25) (.k (.int .i64 0)))), none⟩, ⟨(some 27), (.op (.mv (.t 6))), none⟩, ⟨(some 28), (.op (.bin .geq (.t 27) (.k (.int .i64 0)))), none⟩, ⟨(some 4), (.op (.mv (.t 26))), none⟩, ⟨(some 5), (.op (.mv (.t 28))), none⟩])
  .ret))))
def a12 : AF := ⟨29, [(.t 4), (.t 5)], .code b12, none⟩
theorem ok12 : AFOk Try.prog ext 12 a12 := .of Try.func12 (by kernel_rfl) (by kernel_rfl) (by kernel_rfl) (by kernel_rfl)
/-! 13: (*rowlock/stripes.Table).Lock -/
def b13 : AC :=
  (.seq (.reg [⟨(some 4), (.op (.box 3 (.t 1))), none⟩, ⟨(some 6), (.op (.mv (.k (.int .i64 0)))), none⟩])
  (.seq (.reg [⟨(some 7), (.op (.mv (.t 0))), none⟩, ⟨(some 8), (.op (.mv (.t 2))), none⟩, ⟨(some 9), (.op (.mkfunc 34 [] [(.t 4)])), none⟩, ⟨(some 10), (.call (.f 33) [(.t 7), (.t 8), (.t 9)]), none⟩, ⟨(some 6), (.op (.mv (.t 10))), none⟩])
  .ret))
def a13 : AF := ⟨11, [(.t 6)], .code b13, none⟩
theorem ok13 : AFOk Try.prog ext 13 a13 := .of Try.func13 (by kernel_rfl) (by kernel_rfl) (by kernel_rfl) (by kernel_rfl)
/-! 14: (*rowlock/stripes.Table).Unlock -/
def b14 : AC :=
  (.seq (.reg [⟨(some 4), (.op (.box 23 (.t 0))), none⟩, ⟨(some 5), (.op (.box 3 (.t 1))), none⟩, ⟨(some 7), (.op (.box 29 (.t 3))), none⟩, ⟨(some 8), (.op (.mv (.k (.int .i64 0)))), none⟩])
  (.seq (.reg [⟨(some 9), (.op (.load (.t 4))), none⟩, ⟨(some 10), (.op (.mv (.t 2))), none⟩, ⟨(some 11), (.op (.mkfunc 36 [] [(.t 7), (.t 4), (.t 5)])), none⟩, ⟨(some 12), (.call (.f 33) [(.t 9), (.t 10), (.t 11)]), none⟩, ⟨(some 8), (.op (.mv (.t 12))), none⟩])
  .ret))
def a14 : AF := ⟨13, [(.t 8)], .code b14, none⟩
theorem ok14 : AFOk Try.prog ext 14 a14 := .of Try.func14 (by kernel_rfl) (by kernel_rfl) (by kernel_rfl) (by kernel_rfl)
/-! 15: (*rowlock/stripes.Table).Restore -/
def b15 : AC :=
  (.seq (.reg [⟨(some 4), (.op (.box 3 (.t 1))), none⟩, ⟨(some 6), (.op (.mv (.k (.int .i64 0)))), none⟩])
  (.seq (.reg [⟨(some 7), (.op (.mv (.t 0))), none⟩, ⟨(some 8), (.op (.mv (.t 2))), none⟩, ⟨(some 9), (.op (.mkfunc 38 [] [(.t 4)])), none⟩, ⟨(some 10), (.call (.f 33) [(.t 7), (.t 8), (.t 9)]), none⟩, ⟨(some 6), (.op (.mv (.t 10))), none⟩])
  .ret))
def a15 : AF := ⟨11, [(.t 6)], .code b15, none⟩
theorem ok15 : AFOk Try.prog ext 15 a15 := .of Try.func15 (by kernel_rfl) (by kernel_rfl) (by kernel_rfl) (by kernel_rfl)
/-! 16: (*rowlock/stripes.Table).Held -/
def b16 : AC :=
  (.seq (.reg [⟨(some 4), (.op (.mv (.k (.slice none 0 0)))), none⟩])
  (.seq (.reg [⟨(some 5), (.op (.alloc 36 [(.slice none 0 0)])), none⟩])
  (.seq (.seq (.reg [⟨(some 7), (.op (.mv (.t 0))), none⟩, ⟨(some 8), (.op (.mv (.t 1))), none⟩, ⟨(some 9), (.call (.f 40) [(.t 7), (.t 8)]), none⟩])
  (.block 0 (.rfunc (.t 9) [10] (.reg [⟨(some 6), (.op (.mv (.t 10))), none⟩])
   (.block 1 (.reg [⟨(some 11), (.op (.load (.t 5))), none⟩, ⟨(some 12), (.op (.mv (.t 6))), none⟩, ⟨(some 13), (.op (.bslice 3 [(.int .i64 0)] 1 [(0, 1, (.t 12))])), none⟩, ⟨(some 14), (.op (.append 3 1 8 (.t 11) (.t 13))), none⟩, ⟨none, (.op (.store 1 (.t 5) (.t 14))), none⟩])))))
  (.seq (.reg [⟨(some 15), (.op (.load (.t 5))), none⟩, ⟨(some 4), (.op (.mv (.t 15))), none⟩])
  .ret))))
def a16 : AF := ⟨16, [(.t 4)], .code b16, none⟩
theorem ok16 : AFOk Try.prog ext 16 a16 := .of Try.func16 (by kernel_rfl) (by kernel_rfl) (by kernel_rfl) (by kernel_rfl)
/-! 17: (*rowlock/stripes.Table).Drop -/
def b17 : AC :=
  (.seq (.reg [⟨(some 4), (.op (.mv (.k (.int .i64 0)))), none⟩])
  (.seq (.reg [⟨(some 8), (.op (.mv (.t 0))), none⟩, ⟨(some 9), (.op (.mv (.t 1))), none⟩, ⟨(some 10), (.call (.f 16) [(.t 8), (.t 9)]), none⟩, ⟨(some 5), (.op (.mv (.t 10))), none⟩])
  (.seq (.seq (.reg [⟨(some 11), (.op (.mv (.t 5))), none⟩, ⟨(some 12), (.op (.lenS (.t 11))), none⟩, ⟨(some 13), (.op (.mv (.k (.int .i64 0)))), none⟩])
  (.block 0 (.loop (.seq (.reg [⟨(some 14), (.op (.bin .lss (.t 13) (.t 12))), none⟩])
   (.seq (.cond (.t 14) .skip
   (.exit 0))
   (.seq (.block 1 (.seq (.reg [⟨(some 15), (.op (.iaddrS 1 (.t 11) (.t 13))), none⟩, ⟨(some 16), (.op (.load (.t 15))), none⟩, ⟨(some 7), (.op (.mv (.t 16))), none⟩])
   (.reg [⟨(some 17), (.op (.mv (.t 0))), none⟩, ⟨(some 18), (.op (.mv (.t 1))), none⟩, ⟨(some 19), (.op (.mv (.t 7))), none⟩, ⟨(some 20), (.call (.f 15) [(.t 17), (.t 18), (.t 19)]), none⟩])))
   (.reg [⟨(some 21), (.op (.bin .add (.t 13) (.k (.int .i64 1)))), none⟩, ⟨(some 13), (.op (.mv (.t 21))), none⟩])))))))
  (.seq (.reg [⟨(some 22), (.op (.mv (.t 5))), none⟩, ⟨(some 23), (.op (.lenS (.t 22))), none⟩, ⟨(some 4), (.op (.mv (.t 23))), none⟩])
  .ret))))
def a17 : AF := ⟨24, [(.t 4)], .code b17, none⟩
theorem ok17 : AFOk Try.prog ext 17 a17 := .of Try.func17 (by kernel_rfl) (by kernel_rfl) (by kernel_rfl) (by kernel_rfl)
/-! 18: rowlock/rowlockref04.New -/
def b18 : AC :=
  (.seq (.reg [⟨(some 2), (.op (.mv (.k (.pointer none)))), none⟩])
  (.seq (.seq (.reg [⟨(some 3), (.op (.mv (.t 0))), none⟩, ⟨(some 4), (.op (.bin .lss (.t 3) (.k (.int .i64 1)))), none⟩, ⟨(some 5), (.op (.mv (.t 4))), none⟩, ⟨(some 6), (.op (.mv (.t 0))), (some (5, false))⟩, ⟨(some 7), (.op (.bin .gtr (.t 6) (.k (.int .i64 8)))), (some (5, false))⟩, ⟨(some 8), (.op (.pick (.t 5) (.k (.bool true)) (.t 7))), none⟩])
  (.cond (.t 8) (.seq (.reg [⟨(some 2), (.op (.mv (.k (.pointer none)))), none⟩])
  .ret)
  .skip))
  (.seq (.reg [⟨(some 9), (.op (.mv (.t 0))), none⟩, ⟨(some 10), (.op (.mkslice 29 [(.int .u64 0)] 8 (.t 9) (.t 9))), none⟩, ⟨(some 11), (.op (.build [(.slice none 0 0), (.int .u64 0)] [(0, 1, (.t 10))])), none⟩, ⟨(some 12), (.op (.box 74 (.t 11))), none⟩, ⟨(some 2), (.op (.mv (.t 12))), none⟩])
  .ret)))
def a18 : AF := ⟨13, [(.t 2)], .code b18, none⟩
theorem ok18 : AFOk Try.prog ext 18 a18 := .of Try.func18 (by kernel_rfl) (by kernel_rfl) (by kernel_rfl) (by kernel_rfl)
/-! 19: (*rowlock/stripes.Table).Clock -/
def b19 : AC :=
  (.seq (.reg [⟨(some 2), (.op (.mv (.k (.int .u64 0)))), none⟩])
  (.seq (.seq (.reg [⟨(some 3), (.op (.mv (.t 0))), none⟩, ⟨(some 4), (.op (.eq false .ptr (.t 3) (.k (.pointer none)))), none⟩])
  (.cond (.t 4) (.seq (.reg [⟨(some 2), (.op (.mv (.k (.int .u64 0)))), none⟩])
  .ret)
  .skip))
  (.seq (.reg [⟨(some 5), (.op (.mv (.t 0))), none⟩, ⟨(some 6), (.op (.nilchk (.t 5))), none⟩, ⟨(some 7), (.op (.faddr 0 (.t 6))), none⟩, ⟨(some 8), (.op (.faddr 0 (.t 7))), none⟩, ⟨(some 9), (.op (.load (.t 8))), none⟩, ⟨(some 2), (.op (.mv (.t 9))), none⟩])
  .ret)))
def a19 : AF := ⟨10, [(.t 2)], .code b19, none⟩
theorem ok19 : AFOk Try.prog ext 19 a19 := .of Try.func19 (by kernel_rfl) (by kernel_rfl) (by kernel_rfl) (by kernel_rfl)
/-! 20: rowlock/rowlocklaw04.do -/
def b20 : AC :=
  (.seq (.reg [⟨(some 5), (.op (.box 45 (.t 2))), none⟩, ⟨(some 6), (.op (.mv (.k (.bool false)))), none⟩])
  (.seq (.seq (.reg [⟨(some 11), (.op (.faddr 0 (.t 5))), none⟩, ⟨(some 12), (.op (.load (.t 11))), none⟩])
  (.block 0 (.seq (.reg [⟨(some 14), (.op (.bin .eql (.t 12) (.k (.int .i64 0)))), none⟩, ⟨(some 13), (.op (.mv (.t 14))), none⟩])
  (.cond (.t 13) (.seq (.dreg (.quiet ⟨(some 15), (.op (.mv (.t 0))), none⟩ (.quiet ⟨(some 16), (.op (.faddr 1 (.t 5))), none⟩ (.quiet ⟨(some 17), (.op (.load (.t 16))), none⟩ (.quiet ⟨(some 18), (.op (.faddr 2 (.t 5))), none⟩ (.quiet ⟨(some 19), (.op (.load (.t 18))), none⟩ (.quiet ⟨(some 21), (.op (.mv (.t 1))), none⟩ (.quiet ⟨(some 22), (.op (.faddr 1 (.t 5))), none⟩ (.quiet ⟨(some 23), (.op (.load (.t 22))), none⟩ (.quiet ⟨(some 24), (.op (.faddr 2 (.t 5))), none⟩ (.quiet ⟨(some 25), (.op (.load (.t 24))), none⟩ (.loud ⟨(some 20), (.call (.f 13) [(.t 15), (.t 17), (.t 19)]), none⟩ [⟨(some 25), (.op (.load (.t 24))), none⟩, ⟨(some 23), (.op (.load (.t 22))), none⟩] (.loud ⟨(some 26), (.call (.f 41) [(.t 21), (.t 23), (.t 25)]), none⟩ [] (.quiet ⟨(some 27), (.op (.bin .eql (.t 20) (.t 26))), none⟩ (.loud ⟨(some 6), (.op (.mv (.t 27))), none⟩ [] .nil)))))))))))))))
  .ret)
  (.seq (.reg [⟨(some 29), (.op (.bin .eql (.t 12) (.k (.int .i64 1)))), none⟩, ⟨(some 28), (.op (.mv (.t 29))), none⟩])
  (.cond (.t 28) (.seq (.dreg (.quiet ⟨(some 30), (.op (.mv (.t 0))), none⟩ (.quiet ⟨(some 31), (.op (.faddr 1 (.t 5))), none⟩ (.quiet ⟨(some 32), (.op (.load (.t 31))), none⟩ (.quiet ⟨(some 33), (.op (.faddr 2 (.t 5))), none⟩ (.quiet ⟨(some 34), (.op (.load (.t 33))), none⟩ (.quiet ⟨(some 35), (.op (.faddr 3 (.t 5))), none⟩ (.quiet ⟨(some 36), (.op (.load (.t 35))), none⟩ (.quiet ⟨(some 38), (.op (.mv (.t 1))), none⟩ (.quiet ⟨(some 39), (.op (.faddr 1 (.t 5))), none⟩ (.quiet ⟨(some 40), (.op (.load (.t 39))), none⟩ (.quiet ⟨(some 41), (.op (.faddr 2 (.t 5))), none⟩ (.quiet ⟨(some 42), (.op (.load (.t 41))), none⟩ (.quiet ⟨(some 43), (.op (.faddr 3 (.t 5))), none⟩ (.quiet ⟨(some 44), (.op (.load (.t 43))), none⟩ (.loud ⟨(some 37), (.call (.f 14) [(.t 30), (.t 32), (.t 34), (.t 36)]), none⟩ [⟨(some 44), (.op (.load (.t 43))), none⟩, ⟨(some 42), (.op (.load (.t 41))), none⟩, ⟨(some 40), (.op (.load (.t 39))), none⟩] (.loud ⟨(some 45), (.call (.f 42) [(.t 38), (.t 40), (.t 42), (.t 44)]), none⟩ [] (.quiet ⟨(some 46), (.op (.bin .eql (.t 37) (.t 45))), none⟩ (.loud ⟨(some 6), (.op (.mv (.t 46))), none⟩ [] .nil)))))))))))))))))))
  .ret)
  (.seq (.reg [⟨(some 48), (.op (.bin .eql (.t 12) (.k (.int .i64 2)))), none⟩, ⟨(some 47), (.op (.mv (.t 48))), none⟩])
  (.cond (.t 47) (.seq (.dreg (.quiet ⟨(some 49), (.op (.mv (.t 0))), none⟩ (.quiet ⟨(some 50), (.op (.faddr 1 (.t 5))), none⟩ (.quiet ⟨(some 51), (.op (.load (.t 50))), none⟩ (.quiet ⟨(some 52), (.op (.faddr 2 (.t 5))), none⟩ (.quiet ⟨(some 53), (.op (.load (.t 52))), none⟩ (.quiet ⟨(some 55), (.op (.mv (.t 1))), none⟩ (.quiet ⟨(some 56), (.op (.faddr 1 (.t 5))), none⟩ (.quiet ⟨(some 57), (.op (.load (.t 56))), none⟩ (.quiet ⟨(some 58), (.op (.faddr 2 (.t 5))), none⟩ (.quiet ⟨(some 59), (.op (.load (.t 58))), none⟩ (.loud ⟨(some 54), (.call (.f 15) [(.t 49), (.t 51), (.t 53)]), none⟩ [⟨(some 59), (.op (.load (.t 58))), none⟩, ⟨(some 57), (.op (.load (.t 56))), none⟩] (.loud ⟨(some 60), (.call (.f 43) [(.t 55), (.t 57), (.t 59)]), none⟩ [] (.quiet ⟨(some 61), (.op (.bin .eql (.t 54) (.t 60))), none⟩ (.loud ⟨(some 6), (.op (.mv (.t 61))), none⟩ [] .nil)))))))))))))))
  .ret)
  (.seq (.reg [⟨(some 63), (.op (.bin .eql (.t 12) (.k (.int .i64 3)))), none⟩, ⟨(some 62), (.op (.mv (.t 63))), none⟩])
  (.cond (.t 62) (.seq (.dreg (.quiet ⟨(some 64), (.op (.mv (.t 0))), none⟩ (.quiet ⟨(some 65), (.op (.faddr 1 (.t 5))), none⟩ (.quiet ⟨(some 66), (.op (.load (.t 65))), none⟩ (.quiet ⟨(some 68), (.op (.mv (.t 1))), none⟩ (.quiet ⟨(some 69), (.op (.faddr 1 (.t 5))), none⟩ (.quiet ⟨(some 70), (.op (.load (.t 69))), none⟩ (.loud ⟨(some 67), (.call (.f 17) [(.t 64), (.t 66)]), none⟩ [⟨(some 70), (.op (.load (.t 69))), none⟩] (.loud ⟨(some 71), (.call (.f 44) [(.t 68), (.t 70)]), none⟩ [] (.quiet ⟨(some 72), (.op (.bin .eql (.t 67) (.t 71))), none⟩ (.loud ⟨(some 6), (.op (.mv (.t 72))), none⟩ [] .nil)))))))))))
  .ret)
  (.seq (.reg [⟨(some 74), (.op (.bin .eql (.t 12) (.k (.int .i64 4)))), none⟩, ⟨(some 73), (.op (.mv (.t 74))), none⟩])
  (.cond (.t 73) (.seq (.reg [⟨(some 76), (.op (.mv (.t 0))), none⟩, ⟨(some 77), (.call (.f 30) [(.t 76)]), none⟩, ⟨(some 75), (.op (.mv (.t 77))), none⟩, ⟨(some 78), (.op (.extract (.t 75) 0)), none⟩, ⟨(some 79), (.op (.extract (.t 75) 1)), none⟩, ⟨(some 7), (.op (.mv (.t 78))), none⟩, ⟨(some 8), (.op (.mv (.t 79))), none⟩])
  (.seq (.reg [⟨(some 81), (.op (.mv (.t 1))), none⟩, ⟨(some 82), (.call (.f 45) [(.t 81)]), none⟩, ⟨(some 80), (.op (.mv (.t 82))), none⟩, ⟨(some 83), (.op (.extract (.t 80) 0)), none⟩, ⟨(some 84), (.op (.extract (.t 80) 1)), none⟩, ⟨(some 9), (.op (.mv (.t 83))), none⟩, ⟨(some 10), (.op (.mv (.t 84))), none⟩])
  (.seq (.reg [⟨(some 85), (.op (.mv (.t 7))), none⟩, ⟨(some 86), (.op (.mv (.t 9))), none⟩, ⟨(some 87), (.op (.bin .eql (.t 85) (.t 86))), none⟩, ⟨(some 88), (.op (.mv (.t 87))), none⟩, ⟨(some 89), (.op (.mv (.t 8))), (some (88, true))⟩, ⟨(some 90), (.op (.mv (.t 10))), (some (88, true))⟩, ⟨(some 91), (.op (.bin .eql (.t 89) (.t 90))), (some (88, true))⟩, ⟨(some 92), (.op (.pick (.t 88) (.t 91) (.k (.bool false)))), none⟩, ⟨(some 6), (.op (.mv (.t 92))), none⟩])
  .ret)))
  .skip))))))))))))
  (.seq (.reg [⟨(some 6), (.op (.mv (.k (.bool true)))), none⟩])
  .ret)))
def a20 : AF := ⟨93, [(.t 6)], .code b20, none⟩
theorem ok20 : AFOk Try.prog ext 20 a20 := .of Try.func20 (by kernel_rfl) (by kernel_rfl) (by kernel_rfl) (by kernel_rfl)
/-! 21: rowlock/rowlocklaw04.same -/
def b21 : AC :=
  (.seq (.reg [⟨(some 4), (.op (.mv (.k (.bool false)))), none⟩])
  (.seq (.seq (.reg [⟨(some 5), (.op (.mv (.k (.int .i64 (-1))))), none⟩])
  (.block 0 (.loop (.seq (.seq (.reg [⟨(some 15), (.op (.mv (.t 5))), none⟩, ⟨(some 16), (.op (.bin .leq (.t 15) (.k (.int .i64 8)))), none⟩])
   (.cond (.t 16) .skip
   (.exit 0)))
   (.seq (.block 1 (.seq (.reg [⟨(some 20), (.op (.mv (.t 0))), none⟩, ⟨(some 21), (.op (.mv (.t 5))), none⟩, ⟨(some 22), (.call (.f 46) [(.t 20), (.t 21)]), none⟩, ⟨(some 19), (.op (.mv (.t 22))), none⟩, ⟨(some 23), (.op (.extract (.t 19) 0)), none⟩, ⟨(some 24), (.op (.extract (.t 19) 1)), none⟩, ⟨(some 6), (.op (.mv (.t 23))), none⟩, ⟨(some 7), (.op (.mv (.t 24))), none⟩])
   (.seq (.reg [⟨(some 26), (.op (.mv (.t 1))), none⟩, ⟨(some 27), (.op (.mv (.t 5))), none⟩, ⟨(some 28), (.call (.f 47) [(.t 26), (.t 27)]), none⟩, ⟨(some 25), (.op (.mv (.t 28))), none⟩, ⟨(some 29), (.op (.extract (.t 25) 0)), none⟩, ⟨(some 30), (.op (.extract (.t 25) 1)), none⟩, ⟨(some 8), (.op (.mv (.t 29))), none⟩, ⟨(some 9), (.op (.mv (.t 30))), none⟩])
   (.seq (.reg [⟨(some 32), (.op (.mv (.t 0))), none⟩, ⟨(some 33), (.op (.mv (.t 5))), none⟩, ⟨(some 34), (.call (.f 12) [(.t 32), (.t 33)]), none⟩, ⟨(some 31), (.op (.mv (.t 34))), none⟩, ⟨(some 35), (.op (.extract (.t 31) 0)), none⟩, ⟨(some 36), (.op (.extract (.t 31) 1)), none⟩, ⟨(some 10), (.op (.mv (.t 35))), none⟩, ⟨(some 11), (.op (.mv (.t 36))), none⟩])
   (.seq (.reg [⟨(some 38), (.op (.mv (.t 1))), none⟩, ⟨(some 39), (.op (.mv (.t 5))), none⟩, ⟨(some 40), (.call (.f 48) [(.t 38), (.t 39)]), none⟩, ⟨(some 37), (.op (.mv (.t 40))), none⟩, ⟨(some 41), (.op (.extract (.t 37) 0)), none⟩, ⟨(some 42), (.op (.extract (.t 37) 1)), none⟩, ⟨(some 12), (.op (.mv (.t 41))), none⟩, ⟨(some 13), (.op (.mv (.t 42))), none⟩])
   (.seq (.reg [⟨(some 43), (.op (.mv (.t 6))), none⟩, ⟨(some 44), (.op (.mv (.t 8))), none⟩, ⟨(some 45), (.op (.bin .neq (.t 43) (.t 44))), none⟩, ⟨(some 46), (.op (.mv (.t 45))), none⟩, ⟨(some 47), (.op (.mv (.t 7))), (some (46, false))⟩, ⟨(some 48), (.op (.mv (.t 9))), (some (46, false))⟩, ⟨(some 49), (.op (.bin .neq (.t 47) (.t 48))), (some (46, false))⟩, ⟨(some 50), (.op (.pick (.t 46) (.k (.bool true)) (.t 49))), none⟩, ⟨(some 51), (.op (.mv (.t 50))), none⟩, ⟨(some 52), (.op (.mv (.t 10))), (some (51, false))⟩, ⟨(some 53), (.op (.mv (.t 12))), (some (51, false))⟩, ⟨(some 54), (.op (.bin .neq (.t 52) (.t 53))), (some (51, false))⟩, ⟨(some 55), (.op (.pick (.t 51) (.k (.bool true)) (.t 54))), none⟩, ⟨(some 56), (.op (.mv (.t 55))), none⟩, ⟨(some 57), (.op (.mv (.t 11))), (some (56, false))⟩, ⟨(some 58), (.op (.mv (.t 13))), (some (56, false))⟩, ⟨(some 59), (.op (.eq true .bool (.t 57) (.t 58))), (some (56, false))⟩, ⟨(some 60), (.op (.pick (.t 56) (.k (.bool true)) (.t 59))), none⟩, ⟨(some 61), (.op (.mv (.t 60))), none⟩, ⟨(some 62), (.op (.mv (.t 0))), (some (61, false))⟩, ⟨(some 63), (.op (.mv (.t 5))), (some (61, false))⟩, ⟨(some 64), (.call (.f 11) [(.t 62), (.t 63)]), (some (61, false))⟩, ⟨(some 65), (.op (.mv (.t 1))), (some (61, false))⟩, ⟨(some 66), (.op (.mv (.t 5))), (some (61, false))⟩, ⟨(some 67), (.call (.f 49) [(.t 65), (.t 66)]), (some (61, false))⟩, ⟨(some 68), (.op (.bin .neq (.t 64) (.t 67))), (some (61, false))⟩, ⟨(some 69), (.op (.pick (.t 61) (.k (.bool true)) (.t 68))), none⟩])
   (.cond (.t 69) (.seq (.reg [⟨(some 4), (.op (.mv (.k (.bool false)))), none⟩])
   .ret)
   .skip)))))))
   (.reg [⟨(some 17), (.op (.mv (.t 5))), none⟩, ⟨(some 18), (.op (.bin .add (.t 17) (.k (.int .i64 1)))), none⟩, ⟨(some 5), (.op (.mv (.t 18))), none⟩]))))))
  (.seq (.seq (.reg [⟨(some 14), (.op (.mv (.k (.int .i64 (-1))))), none⟩])
  (.block 2 (.loop (.seq (.seq (.reg [⟨(some 70), (.op (.mv (.t 14))), none⟩, ⟨(some 71), (.op (.bin .leq (.t 70) (.k (.int .i64 4)))), none⟩])
   (.cond (.t 71) .skip
   (.exit 2)))
   (.seq (.block 3 (.seq (.reg [⟨(some 74), (.op (.mv (.t 0))), none⟩, ⟨(some 75), (.op (.mv (.t 14))), none⟩, ⟨(some 76), (.call (.f 16) [(.t 74), (.t 75)]), none⟩, ⟨(some 77), (.op (.mv (.t 1))), none⟩, ⟨(some 78), (.op (.mv (.t 14))), none⟩, ⟨(some 79), (.call (.f 50) [(.t 77), (.t 78)]), none⟩, ⟨(some 80), (.call (.f 26) [(.t 76), (.t 79)]), none⟩, ⟨(some 81), (.op (.un .not (.t 80))), none⟩])
   (.cond (.t 81) (.seq (.reg [⟨(some 4), (.op (.mv (.k (.bool false)))), none⟩])
   .ret)
   .skip)))
   (.reg [⟨(some 72), (.op (.mv (.t 14))), none⟩, ⟨(some 73), (.op (.bin .add (.t 72) (.k (.int .i64 1)))), none⟩, ⟨(some 14), (.op (.mv (.t 73))), none⟩]))))))
  (.seq (.reg [⟨(some 82), (.op (.mv (.t 0))), none⟩, ⟨(some 83), (.call (.f 19) [(.t 82)]), none⟩, ⟨(some 84), (.op (.mv (.t 1))), none⟩, ⟨(some 85), (.call (.f 51) [(.t 84)]), none⟩, ⟨(some 86), (.op (.bin .eql (.t 83) (.t 85))), none⟩, ⟨(some 87), (.op (.mv (.t 86))), none⟩, ⟨(some 88), (.op (.mv (.t 0))), (some (87, true))⟩, ⟨(some 89), (.call (.f 10) [(.t 88)]), (some (87, true))⟩, ⟨(some 90), (.op (.mv (.t 1))), (some (87, true))⟩, ⟨(some 91), (.call (.f 52) [(.t 90)]), (some (87, true))⟩, ⟨(some 92), (.op (.bin .eql (.t 89) (.t 91))), (some (87, true))⟩, ⟨(some 93), (.op (.pick (.t 87) (.t 92) (.k (.bool false)))), none⟩, ⟨(some 4), (.op (.mv (.t 93))), none⟩])
  .ret))))
def a21 : AF := ⟨94, [(.t 4)], .code b21, none⟩
theorem ok21 : AFOk Try.prog ext 21 a21 := .of Try.func21 (by kernel_rfl) (by kernel_rfl) (by kernel_rfl) (by kernel_rfl)
/-! 22: (*rowlock/stripes.Table).Fork -/
def b22 : AC :=
  (.seq (.reg [⟨(some 2), (.op (.mv (.k (.pointer none)))), none⟩])
  (.seq (.seq (.reg [⟨(some 3), (.op (.mv (.t 0))), none⟩, ⟨(some 4), (.op (.eq false .ptr (.t 3) (.k (.pointer none)))), none⟩])
  (.cond (.t 4) (.seq (.reg [⟨(some 2), (.op (.mv (.k (.pointer none)))), none⟩])
  .ret)
  .skip))
  (.seq (.dreg (.quiet ⟨(some 5), (.op (.mv (.t 0))), none⟩ (.quiet ⟨(some 6), (.op (.nilchk (.t 5))), none⟩ (.quiet ⟨(some 7), (.op (.faddr 0 (.t 6))), none⟩ (.quiet ⟨(some 8), (.op (.loadN 1 (.t 7))), none⟩ (.quiet ⟨(some 9), (.op (.mv (.t 0))), none⟩ (.quiet ⟨(some 10), (.op (.nilchk (.t 9))), none⟩ (.quiet ⟨(some 11), (.op (.faddr 1 (.t 10))), none⟩ (.quiet ⟨(some 12), (.op (.load (.t 11))), none⟩ (.loud ⟨(some 13), (.call (.f 53) [(.t 12)]), none⟩ [⟨(some 8), (.op (.loadN 1 (.t 7))), none⟩] (.quiet ⟨(some 14), (.op (.build [(.int .u64 0), (.slice none 0 0)] [(0, 1, (.t 8)), (1, 1, (.t 13))])), none⟩ (.loud ⟨(some 15), (.op (.box 62 (.t 14))), none⟩ [] (.loud ⟨(some 2), (.op (.mv (.t 15))), none⟩ [] .nil)))))))))))))
  .ret)))
def a22 : AF := ⟨16, [(.t 2)], .code b22, none⟩
theorem ok22 : AFOk Try.prog ext 22 a22 := .of Try.func22 (by kernel_rfl) (by kernel_rfl) (by kernel_rfl) (by kernel_rfl)
/-! 23: (*rowlock/rowlockref04.Table).Fork -/
def b23 : AC :=
  (.seq (.reg [⟨(some 2), (.op (.mv (.k (.pointer none)))), none⟩])
  (.seq (.seq (.reg [⟨(some 3), (.op (.mv (.t 0))), none⟩, ⟨(some 4), (.op (.eq false .ptr (.t 3) (.k (.pointer none)))), none⟩])
  (.cond (.t 4) (.seq (.reg [⟨(some 2), (.op (.mv (.k (.pointer none)))), none⟩])
  .ret)
  .skip))
  (.seq (.dreg (.quiet ⟨(some 6), (.op (.mv (.t 0))), none⟩ (.quiet ⟨(some 7), (.op (.nilchk (.t 6))), none⟩ (.quiet ⟨(some 8), (.op (.faddr 0 (.t 7))), none⟩ (.quiet ⟨(some 9), (.op (.load (.t 8))), none⟩ (.quiet ⟨(some 11), (.op (.mv (.t 0))), none⟩ (.quiet ⟨(some 12), (.op (.nilchk (.t 11))), none⟩ (.quiet ⟨(some 13), (.op (.faddr 1 (.t 12))), none⟩ (.quiet ⟨(some 14), (.op (.load (.t 13))), none⟩ (.loud ⟨(some 5), (.op (.bslice 29 [] 0 [])), none⟩ [⟨(some 14), (.op (.load (.t 13))), none⟩, ⟨(some 9), (.op (.load (.t 8))), none⟩] (.loud ⟨(some 10), (.op (.append 29 1 8 (.t 5) (.t 9))), none⟩ [⟨(some 14), (.op (.load (.t 13))), none⟩] (.quiet ⟨(some 15), (.op (.build [(.slice none 0 0), (.int .u64 0)] [(0, 1, (.t 10)), (1, 1, (.t 14))])), none⟩ (.loud ⟨(some 16), (.op (.box 74 (.t 15))), none⟩ [] (.loud ⟨(some 2), (.op (.mv (.t 16))), none⟩ [] .nil))))))))))))))
  .ret)))
def a23 : AF := ⟨17, [(.t 2)], .code b23, none⟩
theorem ok23 : AFOk Try.prog ext 23 a23 := .of Try.func23 (by kernel_rfl) (by kernel_rfl) (by kernel_rfl) (by kernel_rfl)
/-! 24: (*rowlock/stripes.Table).Of -/
def b24 : AC :=
  (.seq (.reg [⟨(some 4), (.op (.mv (.k (.int .i64 0)))), none⟩])
  (.seq (.seq (.reg [⟨(some 5), (.op (.mv (.t 0))), none⟩, ⟨(some 6), (.op (.eq false .ptr (.t 5) (.k (.pointer none)))), none⟩, ⟨(some 7), (.op (.mv (.t 6))), none⟩, ⟨(some 8), (.op (.mv (.t 1))), (some (7, false))⟩, ⟨(some 9), (.op (.bin .lss (.t 8) (.k (.int .i64 0)))), (some (7, false))⟩, ⟨(some 10), (.op (.pick (.t 7) (.k (.bool true)) (.t 9))), none⟩, ⟨(some 11), (.op (.mv (.t 10))), none⟩, ⟨(some 12), (.op (.mv (.t 1))), (some (11, false))⟩, ⟨(some 13), (.op (.bin .geq (.t 12) (.k (.int .i64 12)))), (some (11, false))⟩, ⟨(some 14), (.op (.pick (.t 11) (.k (.bool true)) (.t 13))), none⟩])
  (.cond (.t 14) (.seq (.reg [⟨(some 4), (.op (.mv (.k (.int .i64 (-1))))), none⟩])
  .ret)
  .skip))
  (.seq (.reg [⟨(some 15), (.op (.mv (.t 1))), none⟩, ⟨(some 16), (.op (.bin .mul (.t 15) (.k (.int .i64 5)))), none⟩, ⟨(some 17), (.op (.bin .add (.t 16) (.k (.int .i64 3)))), none⟩, ⟨(some 18), (.op (.mv (.t 0))), none⟩, ⟨(some 19), (.op (.nilchk (.t 18))), none⟩, ⟨(some 20), (.op (.faddr 1 (.t 19))), none⟩, ⟨(some 21), (.op (.load (.t 20))), none⟩, ⟨(some 22), (.op (.lenS (.t 21))), none⟩, ⟨(some 23), (.op (.bin .rem (.t 17) (.t 22))), none⟩, ⟨(some 4), (.op (.mv (.t 23))), none⟩])
  .ret)))
def a24 : AF := ⟨24, [(.t 4)], .code b24, none⟩
theorem ok24 : AFOk Try.prog ext 24 a24 := .of Try.func24 (by kernel_rfl) (by kernel_rfl) (by kernel_rfl) (by kernel_rfl)
/-! 25: (*rowlock/rowlockref04.Table).Of -/
def b25 : AC :=
  (.seq (.reg [⟨(some 4), (.op (.mv (.k (.int .i64 0)))), none⟩])
  (.seq (.seq (.reg [⟨(some 5), (.op (.mv (.t 0))), none⟩, ⟨(some 6), (.op (.eq false .ptr (.t 5) (.k (.pointer none)))), none⟩, ⟨(some 7), (.op (.mv (.t 6))), none⟩, ⟨(some 8), (.op (.mv (.t 1))), (some (7, false))⟩, ⟨(some 9), (.op (.bin .lss (.t 8) (.k (.int .i64 0)))), (some (7, false))⟩, ⟨(some 10), (.op (.pick (.t 7) (.k (.bool true)) (.t 9))), none⟩, ⟨(some 11), (.op (.mv (.t 10))), none⟩, ⟨(some 12), (.op (.mv (.t 1))), (some (11, false))⟩, ⟨(some 13), (.op (.bin .geq (.t 12) (.k (.int .i64 12)))), (some (11, false))⟩, ⟨(some 14), (.op (.pick (.t 11) (.k (.bool true)) (.t 13))), none⟩])
  (.cond (.t 14) (.seq (.reg [⟨(some 4), (.op (.mv (.k (.int .i64 (-1))))), none⟩])
  .ret)
  .skip))
  (.seq (.reg [⟨(some 15), (.op (.mv (.t 1))), none⟩, ⟨(some 16), (.op (.bin .mul (.t 15) (.k (.int .i64 5)))), none⟩, ⟨(some 17), (.op (.bin .add (.t 16) (.k (.int .i64 3)))), none⟩, ⟨(some 18), (.op (.mv (.t 0))), none⟩, ⟨(some 19), (.op (.nilchk (.t 18))), none⟩, ⟨(some 20), (.op (.faddr 0 (.t 19))), none⟩, ⟨(some 21), (.op (.load (.t 20))), none⟩, ⟨(some 22), (.op (.lenS (.t 21))), none⟩, ⟨(some 23), (.op (.bin .rem (.t 17) (.t 22))), none⟩, ⟨(some 4), (.op (.mv (.t 23))), none⟩])
  .ret)))
def a25 : AF := ⟨24, [(.t 4)], .code b25, none⟩
theorem ok25 : AFOk Try.prog ext 25 a25 := .of Try.func25 (by kernel_rfl) (by kernel_rfl) (by kernel_rfl) (by kernel_rfl)
/-! 26: rowlock/rowlockref01.SameInts -/
def b26 : AC :=
  (.seq (.reg [⟨(some 4), (.op (.mv (.k (.bool false)))), none⟩])
  (.seq (.seq (.reg [⟨(some 6), (.op (.mv (.t 0))), none⟩, ⟨(some 7), (.op (.lenS (.t 6))), none⟩, ⟨(some 8), (.op (.mv (.t 1))), none⟩, ⟨(some 9), (.op (.lenS (.t 8))), none⟩, ⟨(some 10), (.op (.bin .neq (.t 7) (.t 9))), none⟩])
  (.cond (.t 10) (.seq (.reg [⟨(some 4), (.op (.mv (.k (.bool false)))), none⟩])
  .ret)
  .skip))
  (.seq (.seq (.reg [⟨(some 5), (.op (.mv (.k (.int .i64 0)))), none⟩])
  (.block 0 (.loop (.seq (.seq (.reg [⟨(some 11), (.op (.mv (.t 5))), none⟩, ⟨(some 12), (.op (.mv (.t 0))), none⟩, ⟨(some 13), (.op (.lenS (.t 12))), none⟩, ⟨(some 14), (.op (.bin .lss (.t 11) (.t 13))), none⟩])
   (.cond (.t 14) .skip
   (.exit 0)))
   (.seq (.block 1 (.seq (.dreg (.quiet ⟨(some 17), (.op (.mv (.t 0))), none⟩ (.quiet ⟨(some 18), (.op (.mv (.t 5))), none⟩ (.quiet ⟨(some 19), (.op (.iaddrS 1 (.t 17) (.t 18))), none⟩ (.quiet ⟨(some 20), (.op (.load (.t 19))), none⟩ (.quiet ⟨(some 21), (.op (.mv (.t 1))), none⟩ (.quiet ⟨(some 22), (.op (.mv (.t 5))), none⟩ (.quiet ⟨(some 23), (.op (.iaddrS 1 (.t 21) (.t 22))), none⟩ (.quiet ⟨(some 24), (.op (.load (.t 23))), none⟩ (.quiet ⟨(some 25), (.op (.bin .neq (.t 20) (.t 24))), none⟩ .nil))))))))))
   (.cond (.t 25) (.seq (.reg [⟨(some 4), (.op (.mv (.k (.bool false)))), none⟩])
   .ret)
   .skip)))
   (.reg [⟨(some 15), (.op (.mv (.t 5))), none⟩, ⟨(some 16), (.op (.bin .add (.t 15) (.k (.int .i64 1)))), none⟩, ⟨(some 5), (.op (.mv (.t 16))), none⟩]))))))
  (.seq (.reg [⟨(some 4), (.op (.mv (.k (.bool true)))), none⟩])
  .ret))))
def a26 : AF := ⟨26, [(.t 4)], .code b26, none⟩
theorem ok26 : AFOk Try.prog ext 26 a26 := .of Try.func26 (by kernel_rfl) (by kernel_rfl) (by kernel_rfl) (by kernel_rfl)
/-! 27: (*rowlock/stripes.Table).Stripes -/
def b27 : AC :=
  (.seq (.reg [⟨(some 4), (.op (.mv (.k (.slice none 0 0)))), none⟩])
  (.seq (.reg [⟨(some 5), (.op (.mv (.k (.slice none 0 0)))), none⟩])
  (.seq (.seq (.reg [⟨(some 9), (.op (.mv (.t 1))), none⟩, ⟨(some 10), (.op (.lenS (.t 9))), none⟩, ⟨(some 11), (.op (.mv (.k (.int .i64 0)))), none⟩])
  (.block 0 (.loop (.seq (.reg [⟨(some 12), (.op (.bin .lss (.t 11) (.t 10))), none⟩])
   (.seq (.cond (.t 12) .skip
   (.exit 0))
   (.seq (.block 1 (.seq (.reg [⟨(some 13), (.op (.iaddrS 1 (.t 9) (.t 11))), none⟩, ⟨(some 14), (.op (.load (.t 13))), none⟩, ⟨(some 7), (.op (.mv (.t 14))), none⟩])
   (.seq (.reg [⟨(some 15), (.op (.mv (.t 0))), none⟩, ⟨(some 16), (.op (.mv (.t 7))), none⟩, ⟨(some 17), (.call (.f 24) [(.t 15), (.t 16)]), none⟩, ⟨(some 8), (.op (.mv (.t 17))), none⟩])
   (.seq (.reg [⟨(some 18), (.op (.mv (.t 8))), none⟩, ⟨(some 19), (.op (.bin .geq (.t 18) (.k (.int .i64 0)))), none⟩])
   (.cond (.t 19) (.reg [⟨(some 20), (.op (.mv (.t 5))), none⟩, ⟨(some 21), (.op (.mv (.t 8))), none⟩, ⟨(some 22), (.op (.bslice 3 [(.int .i64 0)] 1 [(0, 1, (.t 21))])), none⟩, ⟨(some 23), (.op (.append 3 1 8 (.t 20) (.t 22))), none⟩, ⟨(some 5), (.op (.mv (.t 23))), none⟩])
   .skip)))))
   (.reg [⟨(some 24), (.op (.bin .add (.t 11) (.k (.int .i64 1)))), none⟩, ⟨(some 11), (.op (.mv (.t 24))), none⟩])))))))
  (.seq (.reg [⟨(some 25), (.op (.mv (.t 5))), none⟩, ⟨(some 26), (.call (.f 54) [(.t 25)]), none⟩])
  (.seq (.reg [⟨(some 27), (.op (.mv (.t 5))), none⟩, ⟨(some 28), (.call (.f 55) [(.t 27)]), none⟩, ⟨(some 4), (.op (.mv (.t 28))), none⟩])
  .ret)))))
def a27 : AF := ⟨29, [(.t 4)], .code b27, none⟩
theorem ok27 : AFOk Try.prog ext 27 a27 := .of Try.func27 (by kernel_rfl) (by kernel_rfl) (by kernel_rfl) (by kernel_rfl)
/-! 28: (*rowlock/rowlockref04.Table).Stripes -/
def b28 : AC :=
  (.seq (.reg [⟨(some 4), (.op (.mv (.k (.slice none 0 0)))), none⟩])
  (.seq (.reg [⟨(some 5), (.op (.mv (.k (.slice none 0 0)))), none⟩])
  (.seq (.seq (.reg [⟨(some 6), (.op (.mv (.k (.int .i64 0)))), none⟩])
  (.block 0 (.loop (.seq (.seq (.reg [⟨(some 9), (.op (.mv (.t 0))), none⟩, ⟨(some 10), (.op (.mv (.t 6))), none⟩, ⟨(some 11), (.call (.f 56) [(.t 9), (.t 10)]), none⟩, ⟨(some 12), (.op (.bin .eql (.t 11) (.k (.int .i64 0)))), none⟩])
   (.cond (.t 12) .skip
   (.exit 0)))
   (.seq (.block 1 (.seq (.reg [⟨(some 7), (.op (.mv (.k (.bool false)))), none⟩])
   (.seq (.seq (.reg [⟨(some 8), (.op (.mv (.k (.int .i64 0)))), none⟩])
   (.block 2 (.loop (.seq (.seq (.reg [⟨(some 15), (.op (.mv (.t 8))), none⟩, ⟨(some 16), (.op (.mv (.t 1))), none⟩, ⟨(some 17), (.op (.lenS (.t 16))), none⟩, ⟨(some 18), (.op (.bin .lss (.t 15) (.t 17))), none⟩])
    (.cond (.t 18) .skip
    (.exit 2)))
    (.seq (.block 3 (.reg [⟨(some 21), (.op (.mv (.t 7))), none⟩, ⟨(some 22), (.op (.mv (.t 21))), none⟩, ⟨(some 23), (.op (.mv (.t 0))), (some (22, false))⟩, ⟨(some 24), (.op (.mv (.t 1))), (some (22, false))⟩, ⟨(some 25), (.op (.mv (.t 8))), (some (22, false))⟩, ⟨(some 26), (.op (.iaddrS 1 (.t 24) (.t 25))), (some (22, false))⟩, ⟨(some 27), (.op (.load (.t 26))), (some (22, false))⟩, ⟨(some 28), (.call (.f 25) [(.t 23), (.t 27)]), (some (22, false))⟩, ⟨(some 29), (.op (.mv (.t 6))), (some (22, false))⟩, ⟨(some 30), (.op (.bin .eql (.t 28) (.t 29))), (some (22, false))⟩, ⟨(some 31), (.op (.pick (.t 22) (.k (.bool true)) (.t 30))), none⟩, ⟨(some 7), (.op (.mv (.t 31))), none⟩]))
    (.reg [⟨(some 19), (.op (.mv (.t 8))), none⟩, ⟨(some 20), (.op (.bin .add (.t 19) (.k (.int .i64 1)))), none⟩, ⟨(some 8), (.op (.mv (.t 20))), none⟩]))))))
   (.seq (.reg [⟨(some 32), (.op (.mv (.t 7))), none⟩])
   (.cond (.t 32) (.reg [⟨(some 33), (.op (.mv (.t 5))), none⟩, ⟨(some 34), (.op (.mv (.t 6))), none⟩, ⟨(some 35), (.op (.bslice 3 [(.int .i64 0)] 1 [(0, 1, (.t 34))])), none⟩, ⟨(some 36), (.op (.append 3 1 8 (.t 33) (.t 35))), none⟩, ⟨(some 5), (.op (.mv (.t 36))), none⟩])
   .skip)))))
   (.reg [⟨(some 13), (.op (.mv (.t 6))), none⟩, ⟨(some 14), (.op (.bin .add (.t 13) (.k (.int .i64 1)))), none⟩, ⟨(some 6), (.op (.mv (.t 14))), none⟩]))))))
  (.seq (.reg [⟨(some 37), (.op (.mv (.t 5))), none⟩, ⟨(some 4), (.op (.mv (.t 37))), none⟩])
  .ret))))
def a28 : AF := ⟨38, [(.t 4)], .code b28, none⟩
theorem ok28 : AFOk Try.prog ext 28 a28 := .of Try.func28 (by kernel_rfl) (by kernel_rfl) (by kernel_rfl) (by kernel_rfl)
/-! 29: rowlock/stripes.New -/
def b29 : AC :=
  (.seq (.reg [⟨(some 2), (.op (.mv (.k (.pointer none)))), none⟩])
  (.seq (.seq (.reg [⟨(some 3), (.op (.mv (.t 0))), none⟩, ⟨(some 4), (.op (.bin .lss (.t 3) (.k (.int .i64 1)))), none⟩, ⟨(some 5), (.op (.mv (.t 4))), none⟩, ⟨(some 6), (.op (.mv (.t 0))), (some (5, false))⟩, ⟨(some 7), (.op (.bin .gtr (.t 6) (.k (.int .i64 8)))), (some (5, false))⟩, ⟨(some 8), (.op (.pick (.t 5) (.k (.bool true)) (.t 7))), none⟩])
  (.cond (.t 8) (.seq (.reg [⟨(some 2), (.op (.mv (.k (.pointer none)))), none⟩])
  .ret)
  .skip))
  (.seq (.reg [⟨(some 9), (.op (.mv (.t 0))), none⟩, ⟨(some 10), (.op (.mkslice 29 [(.int .u64 0)] 8 (.t 9) (.t 9))), none⟩, ⟨(some 11), (.op (.build [(.int .u64 0), (.slice none 0 0)] [(1, 1, (.t 10))])), none⟩, ⟨(some 12), (.op (.box 62 (.t 11))), none⟩, ⟨(some 2), (.op (.mv (.t 12))), none⟩])
  .ret)))
def a29 : AF := ⟨13, [(.t 2)], .code b29, none⟩
theorem ok29 : AFOk Try.prog ext 29 a29 := .of Try.func29 (by kernel_rfl) (by kernel_rfl) (by kernel_rfl) (by kernel_rfl)
/-! 30: (*rowlock/stripes.Table).Tick -/
def b30 : AC :=
  (.seq (.reg [⟨(some 2), (.op (.mv (.k (.int .u64 0)))), none⟩, ⟨(some 3), (.op (.mv (.k (.int .i64 0)))), none⟩])
  (.seq (.seq (.reg [⟨(some 4), (.op (.mv (.t 0))), none⟩, ⟨(some 5), (.op (.eq false .ptr (.t 4) (.k (.pointer none)))), none⟩])
  (.cond (.t 5) (.seq (.reg [⟨(some 2), (.op (.mv (.k (.int .u64 0)))), none⟩, ⟨(some 3), (.op (.mv (.k (.int .i64 1)))), none⟩])
  .ret)
  .skip))
  (.seq (.reg [⟨(some 6), (.op (.mv (.t 0))), none⟩, ⟨(some 7), (.op (.nilchk (.t 6))), none⟩, ⟨(some 8), (.op (.faddr 0 (.t 7))), none⟩, ⟨(some 9), (.call (.f 57) [(.t 8)]), none⟩, ⟨(some 10), (.op (.extract (.t 9) 0)), none⟩, ⟨(some 11), (.op (.extract (.t 9) 1)), none⟩, ⟨(some 2), (.op (.mv (.t 10))), none⟩, ⟨(some 3), (.op (.mv (.t 11))), none⟩])
  .ret)))
def a30 : AF := ⟨12, [(.t 2), (.t 3)], .code b30, none⟩
theorem ok30 : AFOk Try.prog ext 30 a30 := .of Try.func30 (by kernel_rfl) (by kernel_rfl) (by kernel_rfl) (by kernel_rfl)
/-! 31: (*rowlock/stripes.Table).may -/
def b31 : AC :=
  (.seq (.reg [⟨(some 4), (.op (.mv (.k (.int .i64 0)))), none⟩])
  (.seq (.block 0 (.seq (.reg [⟨(some 6), (.op (.mv (.t 0))), none⟩, ⟨(some 7), (.op (.eq false .ptr (.t 6) (.k (.pointer none)))), none⟩, ⟨(some 5), (.op (.mv (.t 7))), none⟩])
  (.cond (.t 5) (.seq (.reg [⟨(some 4), (.op (.mv (.k (.int .i64 1)))), none⟩])
  .ret)
  (.seq (.reg [⟨(some 9), (.op (.mv (.t 1))), none⟩, ⟨(some 10), (.op (.bin .lss (.t 9) (.k (.int .i64 0)))), none⟩, ⟨(some 11), (.op (.mv (.t 10))), none⟩, ⟨(some 12), (.op (.mv (.t 1))), (some (11, false))⟩, ⟨(some 13), (.op (.mv (.t 0))), (some (11, false))⟩, ⟨(some 14), (.op (.nilchk (.t 13))), (some (11, false))⟩, ⟨(some 15), (.op (.faddr 1 (.t 14))), (some (11, false))⟩, ⟨(some 16), (.op (.load (.t 15))), (some (11, false))⟩, ⟨(some 17), (.op (.lenS (.t 16))), (some (11, false))⟩, ⟨(some 18), (.op (.bin .geq (.t 12) (.t 17))), (some (11, false))⟩, ⟨(some 19), (.op (.pick (.t 11) (.k (.bool true)) (.t 18))), none⟩, ⟨(some 8), (.op (.mv (.t 19))), none⟩])
  (.cond (.t 8) (.seq (.reg [⟨(some 4), (.op (.mv (.k (.int .i64 2)))), none⟩])
  .ret)
  .skip)))))
  (.seq (.reg [⟨(some 4), (.op (.mv (.k (.int .i64 0)))), none⟩])
  .ret)))
def a31 : AF := ⟨20, [(.t 4)], .code b31, none⟩
theorem ok31 : AFOk Try.prog ext 31 a31 := .of Try.func31 (by kernel_rfl) (by kernel_rfl) (by kernel_rfl) (by kernel_rfl)
/-! 32: rowlock/lockword.Read -/
def b32 : AC :=
  (.seq (.reg [⟨(some 2), (.op (.mv (.k (.int .i64 0)))), none⟩, ⟨(some 3), (.op (.mv (.k (.int .u64 0)))), none⟩, ⟨(some 4), (.op (.mv (.k (.int .i64 0)))), none⟩])
  (.seq (.reg [⟨(some 8), (.op (.mv (.t 0))), none⟩, ⟨(some 9), (.call (.f 58) [(.t 8)]), none⟩, ⟨(some 7), (.op (.mv (.t 9))), none⟩, ⟨(some 10), (.op (.extract (.t 7) 0)), none⟩, ⟨(some 11), (.op (.extract (.t 7) 1)), none⟩, ⟨(some 5), (.op (.alloc 79 [(.int .i64 0), (.int .u64 0)])), none⟩, ⟨none, (.op (.store 2 (.t 5) (.t 10))), none⟩, ⟨(some 6), (.op (.mv (.t 11))), none⟩])
  (.seq (.seq (.reg [⟨(some 12), (.op (.mv (.t 6))), none⟩, ⟨(some 13), (.op (.un .not (.t 12))), none⟩])
  (.cond (.t 13) (.seq (.reg [⟨(some 2), (.op (.mv (.k (.int .i64 0)))), none⟩, ⟨(some 3), (.op (.mv (.k (.int .u64 0)))), none⟩, ⟨(some 4), (.op (.mv (.k (.int .i64 3)))), none⟩])
  .ret)
  .skip))
  (.seq (.dreg (.quiet ⟨(some 14), (.op (.faddr 0 (.t 5))), none⟩ (.quiet ⟨(some 15), (.op (.load (.t 14))), none⟩ (.quiet ⟨(some 16), (.op (.faddr 1 (.t 5))), none⟩ (.quiet ⟨(some 17), (.op (.load (.t 16))), none⟩ (.loud ⟨(some 2), (.op (.mv (.t 15))), none⟩ [⟨(some 17), (.op (.load (.t 16))), none⟩] (.loud ⟨(some 3), (.op (.mv (.t 17))), none⟩ [] (.loud ⟨(some 4), (.op (.mv (.k (.int .i64 0)))), none⟩ [] .nil))))))))
  .ret))))
def a32 : AF := ⟨18, [(.t 2), (.t 3), (.t 4)], .code b32, none⟩
theorem ok32 : AFOk Try.prog ext 32 a32 := .of Try.func32 (by kernel_rfl) (by kernel_rfl) (by kernel_rfl) (by kernel_rfl)
/-! 33: (*rowlock/stripes.Table).turn -/
def b33 : AC :=
  (.seq (.reg [⟨(some 6), (.op (.mv (.k (.int .i64 0)))), none⟩])
  (.seq (.seq (.reg [⟨(some 10), (.op (.mv (.t 0))), none⟩, ⟨(some 11), (.op (.mv (.t 1))), none⟩, ⟨(some 12), (.call (.f 31) [(.t 10), (.t 11)]), none⟩, ⟨(some 7), (.op (.mv (.t 12))), none⟩])
  (.seq (.reg [⟨(some 13), (.op (.mv (.t 7))), none⟩, ⟨(some 14), (.op (.bin .neq (.t 13) (.k (.int .i64 0)))), none⟩])
  (.cond (.t 14) (.seq (.reg [⟨(some 15), (.op (.mv (.t 7))), none⟩, ⟨(some 6), (.op (.mv (.t 15))), none⟩])
  .ret)
  .skip)))
  (.seq (.reg [⟨(some 17), (.op (.mv (.t 2))), none⟩, ⟨(some 18), (.op (.mv (.t 0))), none⟩, ⟨(some 19), (.op (.nilchk (.t 18))), none⟩, ⟨(some 20), (.op (.faddr 1 (.t 19))), none⟩, ⟨(some 21), (.op (.load (.t 20))), none⟩, ⟨(some 22), (.op (.mv (.t 1))), none⟩, ⟨(some 23), (.op (.iaddrS 1 (.t 21) (.t 22))), none⟩, ⟨(some 24), (.op (.load (.t 23))), none⟩, ⟨(some 25), (.call (.t 17) [(.t 24)]), none⟩, ⟨(some 16), (.op (.mv (.t 25))), none⟩, ⟨(some 26), (.op (.extract (.t 16) 0)), none⟩, ⟨(some 27), (.op (.extract (.t 16) 1)), none⟩, ⟨(some 8), (.op (.mv (.t 26))), none⟩, ⟨(some 9), (.op (.mv (.t 27))), none⟩])
  (.seq (.seq (.reg [⟨(some 28), (.op (.mv (.t 9))), none⟩, ⟨(some 29), (.op (.bin .eql (.t 28) (.k (.int .i64 0)))), none⟩])
  (.cond (.t 29) (.reg [⟨(some 30), (.op (.mv (.t 0))), none⟩, ⟨(some 31), (.op (.nilchk (.t 30))), none⟩, ⟨(some 32), (.op (.faddr 1 (.t 31))), none⟩, ⟨(some 33), (.op (.load (.t 32))), none⟩, ⟨(some 34), (.op (.mv (.t 1))), none⟩, ⟨(some 35), (.op (.mv (.t 8))), none⟩, ⟨(some 36), (.op (.iaddrS 1 (.t 33) (.t 34))), none⟩, ⟨none, (.op (.store 1 (.t 36) (.t 35))), none⟩])
  .skip))
  (.seq (.reg [⟨(some 37), (.op (.mv (.t 9))), none⟩, ⟨(some 6), (.op (.mv (.t 37))), none⟩])
  .ret)))))
def a33 : AF := ⟨38, [(.t 6)], .code b33, none⟩
theorem ok33 : AFOk Try.prog ext 33 a33 := .of Try.func33 (by kernel_rfl) (by kernel_rfl) (by kernel_rfl) (by kernel_rfl)
/-! 34: (*rowlock/stripes.Table).Lock$1 -/
def b34 : AC :=
  (.seq (.reg [⟨(some 3), (.op (.mv (.k (.int .u64 0)))), none⟩, ⟨(some 4), (.op (.mv (.k (.int .i64 0)))), none⟩])
  (.seq (.reg [⟨(some 5), (.op (.mv (.t 0))), none⟩, ⟨(some 6), (.op (.load (.t 1))), none⟩, ⟨(some 7), (.call (.f 35) [(.t 5), (.t 6)]), none⟩, ⟨(some 8), (.op (.extract (.t 7) 0)), none⟩, ⟨(some 9), (.op (.extract (.t 7) 1)), none⟩, ⟨(some 3), (.op (.mv (.t 8))), none⟩, ⟨(some 4), (.op (.mv (.t 9))), none⟩])
  .ret))
def a34 : AF := ⟨10, [(.t 3), (.t 4)], .code b34, none⟩
theorem ok34 : AFOk Try.prog ext 34 a34 := .of Try.func34 (by kernel_rfl) (by kernel_rfl) (by kernel_rfl) (by kernel_rfl)
/-! 35: rowlock/lockword.Lock -/
def b35 : AC :=
  (.seq (.reg [⟨(some 4), (.op (.mv (.k (.int .u64 0)))), none⟩, ⟨(some 5), (.op (.mv (.k (.int .i64 0)))), none⟩])
  (.seq (.reg [⟨(some 9), (.op (.mv (.t 0))), none⟩, ⟨(some 10), (.op (.mv (.t 1))), none⟩, ⟨(some 11), (.call (.f 59) [(.t 9), (.t 10)]), none⟩, ⟨(some 8), (.op (.mv (.t 11))), none⟩, ⟨(some 12), (.op (.extract (.t 8) 0)), none⟩, ⟨(some 13), (.op (.extract (.t 8) 1)), none⟩, ⟨(some 6), (.op (.alloc 79 [(.int .i64 0), (.int .u64 0)])), none⟩, ⟨none, (.op (.store 2 (.t 6) (.t 12))), none⟩, ⟨(some 7), (.op (.mv (.t 13))), none⟩])
  (.seq (.block 0 (.seq (.reg [⟨(some 15), (.op (.mv (.t 7))), none⟩, ⟨(some 16), (.op (.bin .neq (.t 15) (.k (.int .i64 0)))), none⟩, ⟨(some 14), (.op (.mv (.t 16))), none⟩])
  (.cond (.t 14) (.seq (.reg [⟨(some 17), (.op (.mv (.t 7))), none⟩, ⟨(some 4), (.op (.mv (.k (.int .u64 0)))), none⟩, ⟨(some 5), (.op (.mv (.t 17))), none⟩])
  .ret)
  (.seq (.reg [⟨(some 19), (.op (.faddr 0 (.t 6))), none⟩, ⟨(some 20), (.op (.load (.t 19))), none⟩, ⟨(some 21), (.op (.mv (.t 1))), none⟩, ⟨(some 22), (.op (.bin .eql (.t 20) (.t 21))), none⟩, ⟨(some 18), (.op (.mv (.t 22))), none⟩])
  (.cond (.t 18) (.seq (.reg [⟨(some 4), (.op (.mv (.k (.int .u64 0)))), none⟩, ⟨(some 5), (.op (.mv (.k (.int .i64 6)))), none⟩])
  .ret)
  (.seq (.reg [⟨(some 24), (.op (.faddr 0 (.t 6))), none⟩, ⟨(some 25), (.op (.load (.t 24))), none⟩, ⟨(some 26), (.op (.bin .neq (.t 25) (.k (.int .i64 (-1))))), none⟩, ⟨(some 23), (.op (.mv (.t 26))), none⟩])
  (.cond (.t 23) (.seq (.reg [⟨(some 4), (.op (.mv (.k (.int .u64 0)))), none⟩, ⟨(some 5), (.op (.mv (.k (.int .i64 7)))), none⟩])
  .ret)
  .skip)))))))
  (.seq (.reg [⟨(some 27), (.op (.mv (.t 1))), none⟩, ⟨(some 28), (.op (.faddr 1 (.t 6))), none⟩, ⟨(some 29), (.op (.load (.t 28))), none⟩, ⟨(some 30), (.op (.build [(.int .i64 0), (.int .u64 0)] [(0, 1, (.t 27)), (1, 1, (.t 29))])), none⟩, ⟨(some 31), (.call (.f 60) [(.t 30)]), none⟩, ⟨(some 32), (.op (.extract (.t 31) 0)), none⟩, ⟨(some 33), (.op (.extract (.t 31) 1)), none⟩, ⟨(some 4), (.op (.mv (.t 32))), none⟩, ⟨(some 5), (.op (.mv (.t 33))), none⟩])
  .ret))))
def a35 : AF := ⟨34, [(.t 4), (.t 5)], .code b35, none⟩
theorem ok35 : AFOk Try.prog ext 35 a35 := .of Try.func35 (by kernel_rfl) (by kernel_rfl) (by kernel_rfl) (by kernel_rfl)
/-! 36: (*rowlock/stripes.Table).Unlock$1 -/
def b36 : AC :=
  (.seq (.reg [⟨(some 5), (.op (.mv (.k (.int .u64 0)))), none⟩, ⟨(some 6), (.op (.mv (.k (.int .i64 0)))), none⟩])
  (.seq (.seq (.dreg (.quiet ⟨(some 7), (.op (.load (.t 1))), none⟩ (.quiet ⟨(some 8), (.op (.load (.t 2))), none⟩ (.quiet ⟨(some 9), (.op (.nilchk (.t 8))), none⟩ (.quiet ⟨(some 10), (.op (.faddr 0 (.t 9))), none⟩ (.quiet ⟨(some 11), (.op (.faddr 0 (.t 10))), none⟩ (.quiet ⟨(some 12), (.op (.load (.t 11))), none⟩ (.quiet ⟨(some 13), (.op (.bin .gtr (.t 7) (.t 12))), none⟩ .nil))))))))
  (.cond (.t 13) (.seq (.reg [⟨(some 5), (.op (.mv (.k (.int .u64 0)))), none⟩, ⟨(some 6), (.op (.mv (.k (.int .i64 2)))), none⟩])
  .ret)
  .skip))
  (.seq (.reg [⟨(some 14), (.op (.mv (.t 0))), none⟩, ⟨(some 15), (.op (.load (.t 3))), none⟩, ⟨(some 16), (.op (.load (.t 1))), none⟩, ⟨(some 17), (.call (.f 37) [(.t 14), (.t 15), (.t 16)]), none⟩, ⟨(some 18), (.op (.extract (.t 17) 0)), none⟩, ⟨(some 19), (.op (.extract (.t 17) 1)), none⟩, ⟨(some 5), (.op (.mv (.t 18))), none⟩, ⟨(some 6), (.op (.mv (.t 19))), none⟩])
  .ret)))
def a36 : AF := ⟨20, [(.t 5), (.t 6)], .code b36, none⟩
theorem ok36 : AFOk Try.prog ext 36 a36 := .of Try.func36 (by kernel_rfl) (by kernel_rfl) (by kernel_rfl) (by kernel_rfl)
/-! 37: rowlock/lockword.Unlock -/
def b37 : AC :=
  (.seq (.reg [⟨(some 6), (.op (.mv (.k (.int .u64 0)))), none⟩, ⟨(some 7), (.op (.mv (.k (.int .i64 0)))), none⟩])
  (.seq (.reg [⟨(some 11), (.op (.mv (.t 0))), none⟩, ⟨(some 12), (.op (.mv (.t 1))), none⟩, ⟨(some 13), (.call (.f 59) [(.t 11), (.t 12)]), none⟩, ⟨(some 10), (.op (.mv (.t 13))), none⟩, ⟨(some 14), (.op (.extract (.t 10) 0)), none⟩, ⟨(some 15), (.op (.extract (.t 10) 1)), none⟩, ⟨(some 8), (.op (.alloc 79 [(.int .i64 0), (.int .u64 0)])), none⟩, ⟨none, (.op (.store 2 (.t 8) (.t 14))), none⟩, ⟨(some 9), (.op (.mv (.t 15))), none⟩])
  (.seq (.block 0 (.seq (.reg [⟨(some 17), (.op (.mv (.t 9))), none⟩, ⟨(some 18), (.op (.bin .neq (.t 17) (.k (.int .i64 0)))), none⟩, ⟨(some 16), (.op (.mv (.t 18))), none⟩])
  (.cond (.t 16) (.seq (.reg [⟨(some 19), (.op (.mv (.t 9))), none⟩, ⟨(some 6), (.op (.mv (.k (.int .u64 0)))), none⟩, ⟨(some 7), (.op (.mv (.t 19))), none⟩])
  .ret)
  (.seq (.reg [⟨(some 21), (.op (.mv (.t 2))), none⟩, ⟨(some 22), (.op (.bin .gtr (.t 21) (.k (.int .u64 1099511627776)))), none⟩, ⟨(some 20), (.op (.mv (.t 22))), none⟩])
  (.cond (.t 20) (.seq (.reg [⟨(some 6), (.op (.mv (.k (.int .u64 0)))), none⟩, ⟨(some 7), (.op (.mv (.k (.int .i64 2)))), none⟩])
  .ret)
  (.seq (.reg [⟨(some 24), (.op (.faddr 0 (.t 8))), none⟩, ⟨(some 25), (.op (.load (.t 24))), none⟩, ⟨(some 26), (.op (.mv (.t 1))), none⟩, ⟨(some 27), (.op (.bin .neq (.t 25) (.t 26))), none⟩, ⟨(some 28), (.op (.mv (.t 27))), none⟩, ⟨(some 29), (.op (.mv (.t 2))), (some (28, false))⟩, ⟨(some 30), (.op (.faddr 1 (.t 8))), (some (28, false))⟩, ⟨(some 31), (.op (.load (.t 30))), (some (28, false))⟩, ⟨(some 32), (.op (.bin .lss (.t 29) (.t 31))), (some (28, false))⟩, ⟨(some 33), (.op (.pick (.t 28) (.k (.bool true)) (.t 32))), none⟩, ⟨(some 23), (.op (.mv (.t 33))), none⟩])
  (.cond (.t 23) (.seq (.reg [⟨(some 6), (.op (.mv (.k (.int .u64 0)))), none⟩, ⟨(some 7), (.op (.mv (.k (.int .i64 8)))), none⟩])
  .ret)
  .skip)))))))
  (.seq (.reg [⟨(some 34), (.op (.mv (.t 2))), none⟩, ⟨(some 35), (.call (.f 61) [(.t 34)]), none⟩, ⟨(some 36), (.op (.extract (.t 35) 0)), none⟩, ⟨(some 37), (.op (.extract (.t 35) 1)), none⟩, ⟨(some 6), (.op (.mv (.t 36))), none⟩, ⟨(some 7), (.op (.mv (.t 37))), none⟩])
  .ret))))
def a37 : AF := ⟨38, [(.t 6), (.t 7)], .code b37, none⟩
theorem ok37 : AFOk Try.prog ext 37 a37 := .of Try.func37 (by kernel_rfl) (by kernel_rfl) (by kernel_rfl) (by kernel_rfl)
/-! 38: (*rowlock/stripes.Table).Restore$1 -/
def b38 : AC :=
  (.seq (.reg [⟨(some 3), (.op (.mv (.k (.int .u64 0)))), none⟩, ⟨(some 4), (.op (.mv (.k (.int .i64 0)))), none⟩])
  (.seq (.reg [⟨(some 5), (.op (.mv (.t 0))), none⟩, ⟨(some 6), (.op (.load (.t 1))), none⟩, ⟨(some 7), (.call (.f 39) [(.t 5), (.t 6)]), none⟩, ⟨(some 8), (.op (.extract (.t 7) 0)), none⟩, ⟨(some 9), (.op (.extract (.t 7) 1)), none⟩, ⟨(some 3), (.op (.mv (.t 8))), none⟩, ⟨(some 4), (.op (.mv (.t 9))), none⟩])
  .ret))
def a38 : AF := ⟨10, [(.t 3), (.t 4)], .code b38, none⟩
theorem ok38 : AFOk Try.prog ext 38 a38 := .of Try.func38 (by kernel_rfl) (by kernel_rfl) (by kernel_rfl) (by kernel_rfl)
/-! 39: rowlock/lockword.Restore -/
def b39 : AC :=
  (.seq (.reg [⟨(some 4), (.op (.mv (.k (.int .u64 0)))), none⟩, ⟨(some 5), (.op (.mv (.k (.int .i64 0)))), none⟩])
  (.seq (.reg [⟨(some 9), (.op (.mv (.t 0))), none⟩, ⟨(some 10), (.op (.mv (.t 1))), none⟩, ⟨(some 11), (.call (.f 59) [(.t 9), (.t 10)]), none⟩, ⟨(some 8), (.op (.mv (.t 11))), none⟩, ⟨(some 12), (.op (.extract (.t 8) 0)), none⟩, ⟨(some 13), (.op (.extract (.t 8) 1)), none⟩, ⟨(some 6), (.op (.alloc 79 [(.int .i64 0), (.int .u64 0)])), none⟩, ⟨none, (.op (.store 2 (.t 6) (.t 12))), none⟩, ⟨(some 7), (.op (.mv (.t 13))), none⟩])
  (.seq (.block 0 (.seq (.reg [⟨(some 15), (.op (.mv (.t 7))), none⟩, ⟨(some 16), (.op (.bin .neq (.t 15) (.k (.int .i64 0)))), none⟩, ⟨(some 14), (.op (.mv (.t 16))), none⟩])
  (.cond (.t 14) (.seq (.reg [⟨(some 17), (.op (.mv (.t 7))), none⟩, ⟨(some 4), (.op (.mv (.k (.int .u64 0)))), none⟩, ⟨(some 5), (.op (.mv (.t 17))), none⟩])
  .ret)
  (.seq (.reg [⟨(some 19), (.op (.faddr 0 (.t 6))), none⟩, ⟨(some 20), (.op (.load (.t 19))), none⟩, ⟨(some 21), (.op (.mv (.t 1))), none⟩, ⟨(some 22), (.op (.bin .neq (.t 20) (.t 21))), none⟩, ⟨(some 18), (.op (.mv (.t 22))), none⟩])
  (.cond (.t 18) (.seq (.reg [⟨(some 4), (.op (.mv (.k (.int .u64 0)))), none⟩, ⟨(some 5), (.op (.mv (.k (.int .i64 8)))), none⟩])
  .ret)
  .skip)))))
  (.seq (.reg [⟨(some 23), (.op (.faddr 1 (.t 6))), none⟩, ⟨(some 24), (.op (.load (.t 23))), none⟩, ⟨(some 25), (.call (.f 61) [(.t 24)]), none⟩, ⟨(some 26), (.op (.extract (.t 25) 0)), none⟩, ⟨(some 27), (.op (.extract (.t 25) 1)), none⟩, ⟨(some 4), (.op (.mv (.t 26))), none⟩, ⟨(some 5), (.op (.mv (.t 27))), none⟩])
  .ret))))
def a39 : AF := ⟨28, [(.t 4), (.t 5)], .code b39, none⟩
theorem ok39 : AFOk Try.prog ext 39 a39 := .of Try.func39 (by kernel_rfl) (by kernel_rfl) (by kernel_rfl) (by kernel_rfl)
/-! 40: (*rowlock/stripes.Table).held -/
def b40 : AC :=
  (.seq (.reg [⟨(some 2), (.op (.box 23 (.t 0))), none⟩, ⟨(some 3), (.op (.box 3 (.t 1))), none⟩, ⟨(some 4), (.op (.mv (.k .nilFunc))), none⟩])
  (.seq (.reg [⟨(some 5), (.op (.mkfunc 62 [] [(.t 2), (.t 3)])), none⟩, ⟨(some 4), (.op (.mv (.t 5))), none⟩])
  .ret))
def a40 : AF := ⟨6, [(.t 4)], .code b40, none⟩
theorem ok40 : AFOk Try.prog ext 40 a40 := .of Try.func40 (by kernel_rfl) (by kernel_rfl) (by kernel_rfl) (by kernel_rfl)
/-! 41: (*rowlock/rowlockref04.Table).Lock -/
def b41 : AC :=
  (.seq (.reg [⟨(some 6), (.op (.mv (.k (.int .i64 0)))), none⟩])
  (.seq (.seq (.reg [⟨(some 10), (.op (.mv (.t 0))), none⟩, ⟨(some 11), (.op (.mv (.t 2))), none⟩, ⟨(some 12), (.call (.f 56) [(.t 10), (.t 11)]), none⟩, ⟨(some 7), (.op (.mv (.t 12))), none⟩])
  (.seq (.reg [⟨(some 13), (.op (.mv (.t 7))), none⟩, ⟨(some 14), (.op (.bin .neq (.t 13) (.k (.int .i64 0)))), none⟩])
  (.cond (.t 14) (.seq (.reg [⟨(some 15), (.op (.mv (.t 7))), none⟩, ⟨(some 6), (.op (.mv (.t 15))), none⟩])
  .ret)
  .skip)))
  (.seq (.reg [⟨(some 17), (.op (.mv (.t 0))), none⟩, ⟨(some 18), (.op (.nilchk (.t 17))), none⟩, ⟨(some 19), (.op (.faddr 0 (.t 18))), none⟩, ⟨(some 20), (.op (.load (.t 19))), none⟩, ⟨(some 21), (.op (.mv (.t 2))), none⟩, ⟨(some 22), (.op (.iaddrS 1 (.t 20) (.t 21))), none⟩, ⟨(some 23), (.op (.load (.t 22))), none⟩, ⟨(some 24), (.op (.mv (.t 1))), none⟩, ⟨(some 25), (.call (.f 63) [(.t 23), (.t 24)]), none⟩, ⟨(some 16), (.op (.mv (.t 25))), none⟩, ⟨(some 26), (.op (.extract (.t 16) 0)), none⟩, ⟨(some 27), (.op (.extract (.t 16) 1)), none⟩, ⟨(some 8), (.op (.mv (.t 26))), none⟩, ⟨(some 9), (.op (.mv (.t 27))), none⟩])
  (.seq (.seq (.reg [⟨(some 28), (.op (.mv (.t 9))), none⟩, ⟨(some 29), (.op (.bin .eql (.t 28) (.k (.int .i64 0)))), none⟩])
  (.cond (.t 29) (.reg [⟨(some 30), (.op (.mv (.t 0))), none⟩, ⟨(some 31), (.op (.nilchk (.t 30))), none⟩, ⟨(some 32), (.op (.faddr 0 (.t 31))), none⟩, ⟨(some 33), (.op (.load (.t 32))), none⟩, ⟨(some 34), (.op (.mv (.t 2))), none⟩, ⟨(some 35), (.op (.mv (.t 8))), none⟩, ⟨(some 36), (.op (.iaddrS 1 (.t 33) (.t 34))), none⟩, ⟨none, (.op (.store 1 (.t 36) (.t 35))), none⟩])
  .skip))
  (.seq (.reg [⟨(some 37), (.op (.mv (.t 9))), none⟩, ⟨(some 6), (.op (.mv (.t 37))), none⟩])
  .ret)))))
def a41 : AF := ⟨38, [(.t 6)], .code b41, none⟩
theorem ok41 : AFOk Try.prog ext 41 a41 := .of Try.func41 (by kernel_rfl) (by kernel_rfl) (by kernel_rfl) (by kernel_rfl)
/-! 42: (*rowlock/rowlockref04.Table).Unlock -/
def b42 : AC :=
  (.seq (.reg [⟨(some 8), (.op (.mv (.k (.int .i64 0)))), none⟩])
  (.seq (.seq (.reg [⟨(some 12), (.op (.mv (.t 0))), none⟩, ⟨(some 13), (.op (.mv (.t 2))), none⟩, ⟨(some 14), (.call (.f 56) [(.t 12), (.t 13)]), none⟩, ⟨(some 9), (.op (.mv (.t 14))), none⟩])
  (.seq (.reg [⟨(some 15), (.op (.mv (.t 9))), none⟩, ⟨(some 16), (.op (.bin .neq (.t 15) (.k (.int .i64 0)))), none⟩])
  (.cond (.t 16) (.seq (.reg [⟨(some 17), (.op (.mv (.t 9))), none⟩, ⟨(some 8), (.op (.mv (.t 17))), none⟩])
  .ret)
  .skip)))
  (.seq (.seq (.reg [⟨(some 18), (.op (.mv (.t 3))), none⟩, ⟨(some 19), (.op (.mv (.t 0))), none⟩, ⟨(some 20), (.op (.nilchk (.t 19))), none⟩, ⟨(some 21), (.op (.faddr 1 (.t 20))), none⟩, ⟨(some 22), (.op (.load (.t 21))), none⟩, ⟨(some 23), (.op (.bin .gtr (.t 18) (.t 22))), none⟩])
  (.cond (.t 23) (.seq (.reg [⟨(some 8), (.op (.mv (.k (.int .i64 2)))), none⟩])
  .ret)
  .skip))
  (.seq (.reg [⟨(some 25), (.op (.mv (.t 0))), none⟩, ⟨(some 26), (.op (.nilchk (.t 25))), none⟩, ⟨(some 27), (.op (.faddr 0 (.t 26))), none⟩, ⟨(some 28), (.op (.load (.t 27))), none⟩, ⟨(some 29), (.op (.mv (.t 2))), none⟩, ⟨(some 30), (.op (.iaddrS 1 (.t 28) (.t 29))), none⟩, ⟨(some 31), (.op (.load (.t 30))), none⟩, ⟨(some 32), (.op (.mv (.t 1))), none⟩, ⟨(some 33), (.op (.mv (.t 3))), none⟩, ⟨(some 34), (.call (.f 64) [(.t 31), (.t 32), (.t 33)]), none⟩, ⟨(some 24), (.op (.mv (.t 34))), none⟩, ⟨(some 35), (.op (.extract (.t 24) 0)), none⟩, ⟨(some 36), (.op (.extract (.t 24) 1)), none⟩, ⟨(some 10), (.op (.mv (.t 35))), none⟩, ⟨(some 11), (.op (.mv (.t 36))), none⟩])
  (.seq (.seq (.reg [⟨(some 37), (.op (.mv (.t 11))), none⟩, ⟨(some 38), (.op (.bin .eql (.t 37) (.k (.int .i64 0)))), none⟩])
  (.cond (.t 38) (.reg [⟨(some 39), (.op (.mv (.t 0))), none⟩, ⟨(some 40), (.op (.nilchk (.t 39))), none⟩, ⟨(some 41), (.op (.faddr 0 (.t 40))), none⟩, ⟨(some 42), (.op (.load (.t 41))), none⟩, ⟨(some 43), (.op (.mv (.t 2))), none⟩, ⟨(some 44), (.op (.mv (.t 10))), none⟩, ⟨(some 45), (.op (.iaddrS 1 (.t 42) (.t 43))), none⟩, ⟨none, (.op (.store 1 (.t 45) (.t 44))), none⟩])
  .skip))
  (.seq (.reg [⟨(some 46), (.op (.mv (.t 11))), none⟩, ⟨(some 8), (.op (.mv (.t 46))), none⟩])
  .ret))))))
def a42 : AF := ⟨47, [(.t 8)], .code b42, none⟩
theorem ok42 : AFOk Try.prog ext 42 a42 := .of Try.func42 (by kernel_rfl) (by kernel_rfl) (by kernel_rfl) (by kernel_rfl)
/-! 43: (*rowlock/rowlockref04.Table).Restore -/
def b43 : AC :=
  (.seq (.reg [⟨(some 6), (.op (.mv (.k (.int .i64 0)))), none⟩])
  (.seq (.seq (.reg [⟨(some 10), (.op (.mv (.t 0))), none⟩, ⟨(some 11), (.op (.mv (.t 2))), none⟩, ⟨(some 12), (.call (.f 56) [(.t 10), (.t 11)]), none⟩, ⟨(some 7), (.op (.mv (.t 12))), none⟩])
  (.seq (.reg [⟨(some 13), (.op (.mv (.t 7))), none⟩, ⟨(some 14), (.op (.bin .neq (.t 13) (.k (.int .i64 0)))), none⟩])
  (.cond (.t 14) (.seq (.reg [⟨(some 15), (.op (.mv (.t 7))), none⟩, ⟨(some 6), (.op (.mv (.t 15))), none⟩])
  .ret)
  .skip)))
  (.seq (.reg [⟨(some 17), (.op (.mv (.t 0))), none⟩, ⟨(some 18), (.op (.nilchk (.t 17))), none⟩, ⟨(some 19), (.op (.faddr 0 (.t 18))), none⟩, ⟨(some 20), (.op (.load (.t 19))), none⟩, ⟨(some 21), (.op (.mv (.t 2))), none⟩, ⟨(some 22), (.op (.iaddrS 1 (.t 20) (.t 21))), none⟩, ⟨(some 23), (.op (.load (.t 22))), none⟩, ⟨(some 24), (.op (.mv (.t 1))), none⟩, ⟨(some 25), (.call (.f 65) [(.t 23), (.t 24)]), none⟩, ⟨(some 16), (.op (.mv (.t 25))), none⟩, ⟨(some 26), (.op (.extract (.t 16) 0)), none⟩, ⟨(some 27), (.op (.extract (.t 16) 1)), none⟩, ⟨(some 8), (.op (.mv (.t 26))), none⟩, ⟨(some 9), (.op (.mv (.t 27))), none⟩])
  (.seq (.seq (.reg [⟨(some 28), (.op (.mv (.t 9))), none⟩, ⟨(some 29), (.op (.bin .eql (.t 28) (.k (.int .i64 0)))), none⟩])
  (.cond (.t 29) (.reg [⟨(some 30), (.op (.mv (.t 0))), none⟩, ⟨(some 31), (.op (.nilchk (.t 30))), none⟩, ⟨(some 32), (.op (.faddr 0 (.t 31))), none⟩, ⟨(some 33), (.op (.load (.t 32))), none⟩, ⟨(some 34), (.op (.mv (.t 2))), none⟩, ⟨(some 35), (.op (.mv (.t 8))), none⟩, ⟨(some 36), (.op (.iaddrS 1 (.t 33) (.t 34))), none⟩, ⟨none, (.op (.store 1 (.t 36) (.t 35))), none⟩])
  .skip))
  (.seq (.reg [⟨(some 37), (.op (.mv (.t 9))), none⟩, ⟨(some 6), (.op (.mv (.t 37))), none⟩])
  .ret)))))
def a43 : AF := ⟨38, [(.t 6)], .code b43, none⟩
theorem ok43 : AFOk Try.prog ext 43 a43 := .of Try.func43 (by kernel_rfl) (by kernel_rfl) (by kernel_rfl) (by kernel_rfl)
/-! 44: (*rowlock/rowlockref04.Table).Drop -/
def b44 : AC :=
  (.seq (.reg [⟨(some 4), (.op (.mv (.k (.int .i64 0)))), none⟩])
  (.seq (.reg [⟨(some 5), (.op (.mv (.k (.int .i64 0)))), none⟩])
  (.seq (.seq (.reg [⟨(some 6), (.op (.mv (.k (.int .i64 0)))), none⟩])
  (.block 0 (.loop (.seq (.seq (.reg [⟨(some 7), (.op (.mv (.t 0))), none⟩, ⟨(some 8), (.op (.mv (.t 6))), none⟩, ⟨(some 9), (.call (.f 56) [(.t 7), (.t 8)]), none⟩, ⟨(some 10), (.op (.bin .eql (.t 9) (.k (.int .i64 0)))), none⟩])
   (.cond (.t 10) .skip
   (.exit 0)))
   (.seq (.block 1 (.seq (.reg [⟨(some 13), (.op (.mv (.t 0))), none⟩, ⟨(some 14), (.op (.mv (.t 1))), none⟩, ⟨(some 15), (.op (.mv (.t 6))), none⟩, ⟨(some 16), (.call (.f 43) [(.t 13), (.t 14), (.t 15)]), none⟩, ⟨(some 17), (.op (.bin .eql (.t 16) (.k (.int .i64 0)))), none⟩])
   (.cond (.t 17) (.reg [⟨(some 18), (.op (.mv (.t 5))), none⟩, ⟨(some 19), (.op (.bin .add (.t 18) (.k (.int .i64 1)))), none⟩, ⟨(some 5), (.op (.mv (.t 19))), none⟩])
   .skip)))
   (.reg [⟨(some 11), (.op (.mv (.t 6))), none⟩, ⟨(some 12), (.op (.bin .add (.t 11) (.k (.int .i64 1)))), none⟩, ⟨(some 6), (.op (.mv (.t 12))), none⟩]))))))
  (.seq (.reg [⟨(some 20), (.op (.mv (.t 5))), none⟩, ⟨(some 4), (.op (.mv (.t 20))), none⟩])
  .ret))))
def a44 : AF := ⟨21, [(.t 4)], .code b44, none⟩
theorem ok44 : AFOk Try.prog ext 44 a44 := .of Try.func44 (by kernel_rfl) (by kernel_rfl) (by kernel_rfl) (by kernel_rfl)
/-! 45: (*rowlock/rowlockref04.Table).Tick -/
def b45 : AC :=
  (.seq (.reg [⟨(some 2), (.op (.mv (.k (.int .u64 0)))), none⟩, ⟨(some 3), (.op (.mv (.k (.int .i64 0)))), none⟩])
  (.seq (.seq (.reg [⟨(some 6), (.op (.mv (.t 0))), none⟩, ⟨(some 7), (.op (.eq false .ptr (.t 6) (.k (.pointer none)))), none⟩])
  (.cond (.t 7) (.seq (.reg [⟨(some 2), (.op (.mv (.k (.int .u64 0)))), none⟩, ⟨(some 3), (.op (.mv (.k (.int .i64 1)))), none⟩])
  .ret)
  .skip))
  (.seq (.reg [⟨(some 9), (.op (.mv (.t 0))), none⟩, ⟨(some 10), (.op (.nilchk (.t 9))), none⟩, ⟨(some 11), (.op (.faddr 1 (.t 10))), none⟩, ⟨(some 12), (.op (.load (.t 11))), none⟩, ⟨(some 13), (.call (.f 66) [(.t 12)]), none⟩, ⟨(some 8), (.op (.mv (.t 13))), none⟩, ⟨(some 14), (.op (.extract (.t 8) 0)), none⟩, ⟨(some 15), (.op (.extract (.t 8) 1)), none⟩, ⟨(some 4), (.op (.mv (.t 14))), none⟩, ⟨(some 5), (.op (.mv (.t 15))), none⟩])
  (.seq (.seq (.reg [⟨(some 16), (.op (.mv (.t 5))), none⟩, ⟨(some 17), (.op (.bin .eql (.t 16) (.k (.int .i64 0)))), none⟩])
  (.cond (.t 17) (.reg [⟨(some 18), (.op (.mv (.t 0))), none⟩, ⟨(some 19), (.op (.mv (.t 4))), none⟩, ⟨(some 20), (.op (.nilchk (.t 18))), none⟩, ⟨(some 21), (.op (.faddr 1 (.t 20))), none⟩, ⟨none, (.op (.store 1 (.t 21) (.t 19))), none⟩])
  .skip))
  (.seq (.reg [⟨(some 22), (.op (.mv (.t 4))), none⟩, ⟨(some 23), (.op (.mv (.t 5))), none⟩, ⟨(some 2), (.op (.mv (.t 22))), none⟩, ⟨(some 3), (.op (.mv (.t 23))), none⟩])
  .ret)))))
def a45 : AF := ⟨24, [(.t 2), (.t 3)], .code b45, none⟩
theorem ok45 : AFOk Try.prog ext 45 a45 := .of Try.func45 (by kernel_rfl) (by kernel_rfl) (by kernel_rfl) (by kernel_rfl)
/-! 46: (*rowlock/stripes.Table).Word -/
def b46 : AC :=
  (.seq (.reg [⟨(some 4), (.op (.mv (.k (.int .u64 0)))), none⟩, ⟨(some 5), (.op (.mv (.k (.int .i64 0)))), none⟩])
  (.seq (.seq (.reg [⟨(some 7), (.op (.mv (.t 0))), none⟩, ⟨(some 8), (.op (.mv (.t 1))), none⟩, ⟨(some 9), (.call (.f 31) [(.t 7), (.t 8)]), none⟩, ⟨(some 6), (.op (.mv (.t 9))), none⟩])
  (.seq (.reg [⟨(some 10), (.op (.mv (.t 6))), none⟩, ⟨(some 11), (.op (.bin .neq (.t 10) (.k (.int .i64 0)))), none⟩])
  (.cond (.t 11) (.seq (.reg [⟨(some 12), (.op (.mv (.t 6))), none⟩, ⟨(some 4), (.op (.mv (.k (.int .u64 0)))), none⟩, ⟨(some 5), (.op (.mv (.t 12))), none⟩])
  .ret)
  .skip)))
  (.seq (.reg [⟨(some 13), (.op (.mv (.t 0))), none⟩, ⟨(some 14), (.op (.nilchk (.t 13))), none⟩, ⟨(some 15), (.op (.faddr 1 (.t 14))), none⟩, ⟨(some 16), (.op (.load (.t 15))), none⟩, ⟨(some 17), (.op (.mv (.t 1))), none⟩, ⟨(some 18), (.op (.iaddrS 1 (.t 16) (.t 17))), none⟩, ⟨(some 19), (.op (.load (.t 18))), none⟩, ⟨(some 4), (.op (.mv (.t 19))), none⟩, ⟨(some 5), (.op (.mv (.k (.int .i64 0)))), none⟩])
  .ret)))
def a46 : AF := ⟨20, [(.t 4), (.t 5)], .code b46, none⟩
theorem ok46 : AFOk Try.prog ext 46 a46 := .of Try.func46 (by kernel_rfl) (by kernel_rfl) (by kernel_rfl) (by kernel_rfl)
/-! 47: (*rowlock/rowlockref04.Table).Word -/
def b47 : AC :=
  (.seq (.reg [⟨(some 4), (.op (.mv (.k (.int .u64 0)))), none⟩, ⟨(some 5), (.op (.mv (.k (.int .i64 0)))), none⟩])
  (.seq (.seq (.reg [⟨(some 7), (.op (.mv (.t 0))), none⟩, ⟨(some 8), (.op (.mv (.t 1))), none⟩, ⟨(some 9), (.call (.f 56) [(.t 7), (.t 8)]), none⟩, ⟨(some 6), (.op (.mv (.t 9))), none⟩])
  (.seq (.reg [⟨(some 10), (.op (.mv (.t 6))), none⟩, ⟨(some 11), (.op (.bin .neq (.t 10) (.k (.int .i64 0)))), none⟩])
  (.cond (.t 11) (.seq (.reg [⟨(some 12), (.op (.mv (.t 6))), none⟩, ⟨(some 4), (.op (.mv (.k (.int .u64 0)))), none⟩, ⟨(some 5), (.op (.mv (.t 12))), none⟩])
  .ret)
  .skip)))
  (.seq (.reg [⟨(some 13), (.op (.mv (.t 0))), none⟩, ⟨(some 14), (.op (.nilchk (.t 13))), none⟩, ⟨(some 15), (.op (.faddr 0 (.t 14))), none⟩, ⟨(some 16), (.op (.load (.t 15))), none⟩, ⟨(some 17), (.op (.mv (.t 1))), none⟩, ⟨(some 18), (.op (.iaddrS 1 (.t 16) (.t 17))), none⟩, ⟨(some 19), (.op (.load (.t 18))), none⟩, ⟨(some 4), (.op (.mv (.t 19))), none⟩, ⟨(some 5), (.op (.mv (.k (.int .i64 0)))), none⟩])
  .ret)))
def a47 : AF := ⟨20, [(.t 4), (.t 5)], .code b47, none⟩
theorem ok47 : AFOk Try.prog ext 47 a47 := .of Try.func47 (by kernel_rfl) (by kernel_rfl) (by kernel_rfl) (by kernel_rfl)
/-! 48: (*rowlock/rowlockref04.Table).Owner -/
def b48 : AC :=
  (.seq (.reg [⟨(some 4), (.op (.mv (.k (.int .i64 0)))), none⟩, ⟨(some 5), (.op (.mv (.k (.bool false)))), none⟩])
  (.seq (.seq (.reg [⟨(some 9), (.op (.mv (.t 0))), none⟩, ⟨(some 10), (.op (.mv (.t 1))), none⟩, ⟨(some 11), (.call (.f 56) [(.t 9), (.t 10)]), none⟩, ⟨(some 12), (.op (.bin .neq (.t 11) (.k (.int .i64 0)))), none⟩])
  (.cond (.t 12) (.seq (.reg [⟨(some 4), (.op (.mv (.k (.int .i64 0)))), none⟩, ⟨(some 5), (.op (.mv (.k (.bool false)))), none⟩])
  .ret)
  .skip))
  (.seq (.reg [⟨(some 14), (.op (.mv (.t 0))), none⟩, ⟨(some 15), (.op (.nilchk (.t 14))), none⟩, ⟨(some 16), (.op (.faddr 0 (.t 15))), none⟩, ⟨(some 17), (.op (.load (.t 16))), none⟩, ⟨(some 18), (.op (.mv (.t 1))), none⟩, ⟨(some 19), (.op (.iaddrS 1 (.t 17) (.t 18))), none⟩, ⟨(some 20), (.op (.load (.t 19))), none⟩, ⟨(some 21), (.call (.f 67) [(.t 20)]), none⟩, ⟨(some 13), (.op (.mv (.t 21))), none⟩, ⟨(some 22), (.op (.extract (.t 13) 0)), none⟩, ⟨(some 23), (.op (.extract (.t 13) 1)), none⟩, ⟨(some 24), (.op (.extract (.t 13) 2)), none⟩, ⟨(some 6), (.op (.mv (.t 22))), none⟩, ⟨(some 7), (.op (.mv (.t 23))), none⟩, ⟨(some 8), (.op (.mv (.t 24))), none⟩])
  (.seq (.seq (.reg [⟨(some 25), (.op (.mv (.t 6))), none⟩, ⟨(some 26), (.op (.bin .lss (.t 25) (.k (.int .i64 0)))), none⟩])
  (.cond (.t 26) (.seq (.reg [⟨(some 4), (.op (.mv (.k (.int .i64 0)))), none⟩, ⟨(some 5), (.op (.mv (.k (.bool false)))), none⟩])
  .ret)
  .skip))
  (.seq (.reg [⟨(some 27), (.op (.mv (.t 6))), none⟩, ⟨(some 4), (.op (.mv (.t 27))), none⟩, ⟨(some 5), (.op (.mv (.k (.bool true)))), none⟩])
  .ret)))))
def a48 : AF := ⟨28, [(.t 4), (.t 5)], .code b48, none⟩
theorem ok48 : AFOk Try.prog ext 48 a48 := .of Try.func48 (by kernel_rfl) (by kernel_rfl) (by kernel_rfl) (by kernel_rfl)
/-! 49: (*rowlock/rowlockref04.Table).Version -/
def b49 : AC :=
  (.seq (.reg [⟨(some 4), (.op (.mv (.k (.int .u64 0)))), none⟩])
  (.seq (.seq (.reg [⟨(some 8), (.op (.mv (.t 0))), none⟩, ⟨(some 9), (.op (.mv (.t 1))), none⟩, ⟨(some 10), (.call (.f 56) [(.t 8), (.t 9)]), none⟩, ⟨(some 11), (.op (.bin .neq (.t 10) (.k (.int .i64 0)))), none⟩])
  (.cond (.t 11) (.seq (.reg [⟨(some 4), (.op (.mv (.k (.int .u64 0)))), none⟩])
  .ret)
  .skip))
  (.seq (.reg [⟨(some 13), (.op (.mv (.t 0))), none⟩, ⟨(some 14), (.op (.nilchk (.t 13))), none⟩, ⟨(some 15), (.op (.faddr 0 (.t 14))), none⟩, ⟨(some 16), (.op (.load (.t 15))), none⟩, ⟨(some 17), (.op (.mv (.t 1))), none⟩, ⟨(some 18), (.op (.iaddrS 1 (.t 16) (.t 17))), none⟩, ⟨(some 19), (.op (.load (.t 18))), none⟩, ⟨(some 20), (.call (.f 67) [(.t 19)]), none⟩, ⟨(some 12), (.op (.mv (.t 20))), none⟩, ⟨(some 21), (.op (.extract (.t 12) 0)), none⟩, ⟨(some 22), (.op (.extract (.t 12) 1)), none⟩, ⟨(some 23), (.op (.extract (.t 12) 2)), none⟩, ⟨(some 5), (.op (.mv (.t 21))), none⟩, ⟨(some 6), (.op (.mv (.t 22))), none⟩, ⟨(some 7), (.op (.mv (.t 23))), none⟩])
  (.seq (.reg [⟨(some 24), (.op (.mv (.t 6))), none⟩, ⟨(some 4), (.op (.mv (.t 24))), none⟩])
  .ret))))
def a49 : AF := ⟨25, [(.t 4)], .code b49, none⟩
theorem ok49 : AFOk Try.prog ext 49 a49 := .of Try.func49 (by kernel_rfl) (by kernel_rfl) (by kernel_rfl) (by kernel_rfl)
/-! 50: (*rowlock/rowlockref04.Table).Held -/
def b50 : AC :=
  (.seq (.reg [⟨(some 4), (.op (.mv (.k (.slice none 0 0)))), none⟩])
  (.seq (.reg [⟨(some 5), (.op (.mv (.k (.slice none 0 0)))), none⟩])
  (.seq (.seq (.reg [⟨(some 6), (.op (.mv (.k (.int .i64 0)))), none⟩])
  (.block 0 (.loop (.seq (.seq (.reg [⟨(some 9), (.op (.mv (.t 0))), none⟩, ⟨(some 10), (.op (.mv (.t 6))), none⟩, ⟨(some 11), (.call (.f 56) [(.t 9), (.t 10)]), none⟩, ⟨(some 12), (.op (.bin .eql (.t 11) (.k (.int .i64 0)))), none⟩])
   (.cond (.t 12) .skip
   (.exit 0)))
   (.seq (.block 1 (.seq (.reg [⟨(some 16), (.op (.mv (.t 0))), none⟩, ⟨(some 17), (.op (.mv (.t 6))), none⟩, ⟨(some 18), (.call (.f 48) [(.t 16), (.t 17)]), none⟩, ⟨(some 15), (.op (.mv (.t 18))), none⟩, ⟨(some 19), (.op (.extract (.t 15) 0)), none⟩, ⟨(some 20), (.op (.extract (.t 15) 1)), none⟩, ⟨(some 7), (.op (.mv (.t 19))), none⟩, ⟨(some 8), (.op (.mv (.t 20))), none⟩])
   (.seq (.reg [⟨(some 21), (.op (.mv (.t 8))), none⟩, ⟨(some 22), (.op (.mv (.t 21))), none⟩, ⟨(some 23), (.op (.mv (.t 7))), (some (22, true))⟩, ⟨(some 24), (.op (.mv (.t 1))), (some (22, true))⟩, ⟨(some 25), (.op (.bin .eql (.t 23) (.t 24))), (some (22, true))⟩, ⟨(some 26), (.op (.pick (.t 22) (.t 25) (.k (.bool false)))), none⟩])
   (.cond (.t 26) (.reg [⟨(some 27), (.op (.mv (.t 5))), none⟩, ⟨(some 28), (.op (.mv (.t 6))), none⟩, ⟨(some 29), (.op (.bslice 3 [(.int .i64 0)] 1 [(0, 1, (.t 28))])), none⟩, ⟨(some 30), (.op (.append 3 1 8 (.t 27) (.t 29))), none⟩, ⟨(some 5), (.op (.mv (.t 30))), none⟩])
   .skip))))
   (.reg [⟨(some 13), (.op (.mv (.t 6))), none⟩, ⟨(some 14), (.op (.bin .add (.t 13) (.k (.int .i64 1)))), none⟩, ⟨(some 6), (.op (.mv (.t 14))), none⟩]))))))
  (.seq (.reg [⟨(some 31), (.op (.mv (.t 5))), none⟩, ⟨(some 4), (.op (.mv (.t 31))), none⟩])
  .ret))))
def a50 : AF := ⟨32, [(.t 4)], .code b50, none⟩
theorem ok50 : AFOk Try.prog ext 50 a50 := .of Try.func50 (by kernel_rfl) (by kernel_rfl) (by kernel_rfl) (by kernel_rfl)
/-! 51: (*rowlock/rowlockref04.Table).Clock -/
def b51 : AC :=
  (.seq (.reg [⟨(some 2), (.op (.mv (.k (.int .u64 0)))), none⟩])
  (.seq (.seq (.reg [⟨(some 3), (.op (.mv (.t 0))), none⟩, ⟨(some 4), (.op (.eq false .ptr (.t 3) (.k (.pointer none)))), none⟩])
  (.cond (.t 4) (.seq (.reg [⟨(some 2), (.op (.mv (.k (.int .u64 0)))), none⟩])
  .ret)
  .skip))
  (.seq (.reg [⟨(some 5), (.op (.mv (.t 0))), none⟩, ⟨(some 6), (.op (.nilchk (.t 5))), none⟩, ⟨(some 7), (.op (.faddr 1 (.t 6))), none⟩, ⟨(some 8), (.op (.load (.t 7))), none⟩, ⟨(some 2), (.op (.mv (.t 8))), none⟩])
  .ret)))
def a51 : AF := ⟨9, [(.t 2)], .code b51, none⟩
theorem ok51 : AFOk Try.prog ext 51 a51 := .of Try.func51 (by kernel_rfl) (by kernel_rfl) (by kernel_rfl) (by kernel_rfl)
/-! 52: (*rowlock/rowlockref04.Table).Size -/
def b52 : AC :=
  (.seq (.reg [⟨(some 2), (.op (.mv (.k (.int .i64 0)))), none⟩])
  (.seq (.seq (.reg [⟨(some 3), (.op (.mv (.t 0))), none⟩, ⟨(some 4), (.op (.eq false .ptr (.t 3) (.k (.pointer none)))), none⟩])
  (.cond (.t 4) (.seq (.reg [⟨(some 2), (.op (.mv (.k (.int .i64 0)))), none⟩])
  .ret)
  .skip))
  (.seq (.reg [⟨(some 5), (.op (.mv (.t 0))), none⟩, ⟨(some 6), (.op (.nilchk (.t 5))), none⟩, ⟨(some 7), (.op (.faddr 0 (.t 6))), none⟩, ⟨(some 8), (.op (.load (.t 7))), none⟩, ⟨(some 9), (.op (.lenS (.t 8))), none⟩, ⟨(some 2), (.op (.mv (.t 9))), none⟩])
  .ret)))
def a52 : AF := ⟨10, [(.t 2)], .code b52, none⟩
theorem ok52 : AFOk Try.prog ext 52 a52 := .of Try.func52 (by kernel_rfl) (by kernel_rfl) (by kernel_rfl) (by kernel_rfl)
/-! 53: slices.Clone[[]uint64,uint64] -/
def b53 : AC :=
  (.seq (.reg [⟨(some 2), (.op (.mv (.k (.slice none 0 0)))), none⟩])
  (.seq (.seq (.reg [⟨(some 3), (.op (.mv (.t 0))), none⟩, ⟨(some 4), (.isnil false (.t 3)), none⟩])
  (.cond (.t 4) (.seq (.reg [⟨(some 2), (.op (.mv (.k (.slice none 0 0)))), none⟩])
  .ret)
  .skip))
  (.seq (.reg [⟨(some 5), (.op (.bslice 29 [] 0 [])), none⟩, ⟨(some 6), (.op (.mv (.t 0))), none⟩, ⟨(some 7), (.op (.append 29 1 8 (.t 5) (.t 6))), none⟩, ⟨(some 2), (.op (.mv (.t 7))), none⟩])
  .ret)))
def a53 : AF := ⟨8, [(.t 2)], .code b53, none⟩
theorem ok53 : AFOk Try.prog ext 53 a53 := .of Try.func53 (by kernel_rfl) (by kernel_rfl) (by kernel_rfl) (by kernel_rfl)
/-! 54: slices.Sort[[]int,int] -/
def b54 : AC :=
  (.seq (.reg [⟨(some 3), (.op (.mv (.t 0))), none⟩, ⟨(some 4), (.op (.lenS (.t 3))), none⟩, ⟨(some 2), (.op (.mv (.t 4))), none⟩])
  (.reg [⟨(some 5), (.op (.mv (.t 0))), none⟩, ⟨(some 6), (.op (.mv (.t 2))), none⟩, ⟨(some 7), (.op (.mv (.t 2))), none⟩, ⟨(some 8), (.op (.conv (.int .u64) (.t 7))), none⟩, ⟨(some 9), (.call (.f 69) [(.t 8)]), none⟩, ⟨(some 10), (.call (.f 68) [(.t 5), (.k (.int .i64 0)), (.t 6), (.t 9)]), none⟩]))
def a54 : AF := ⟨11, [], .code b54, none⟩
theorem ok54 : AFOk Try.prog ext 54 a54 := .of Try.func54 (by kernel_rfl) (by kernel_rfl) (by kernel_rfl) (by kernel_rfl)
/-! 56: (*rowlock/rowlockref04.Table).may -/
def b56 : AC :=
  (.seq (.reg [⟨(some 4), (.op (.mv (.k (.int .i64 0)))), none⟩])
  (.seq (.block 0 (.seq (.reg [⟨(some 6), (.op (.mv (.t 0))), none⟩, ⟨(some 7), (.op (.eq false .ptr (.t 6) (.k (.pointer none)))), none⟩, ⟨(some 5), (.op (.mv (.t 7))), none⟩])
  (.cond (.t 5) (.seq (.reg [⟨(some 4), (.op (.mv (.k (.int .i64 1)))), none⟩])
  .ret)
  (.seq (.reg [⟨(some 9), (.op (.mv (.t 1))), none⟩, ⟨(some 10), (.op (.bin .lss (.t 9) (.k (.int .i64 0)))), none⟩, ⟨(some 11), (.op (.mv (.t 10))), none⟩, ⟨(some 12), (.op (.mv (.t 1))), (some (11, false))⟩, ⟨(some 13), (.op (.mv (.t 0))), (some (11, false))⟩, ⟨(some 14), (.op (.nilchk (.t 13))), (some (11, false))⟩, ⟨(some 15), (.op (.faddr 0 (.t 14))), (some (11, false))⟩, ⟨(some 16), (.op (.load (.t 15))), (some (11, false))⟩, ⟨(some 17), (.op (.lenS (.t 16))), (some (11, false))⟩, ⟨(some 18), (.op (.bin .geq (.t 12) (.t 17))), (some (11, false))⟩, ⟨(some 19), (.op (.pick (.t 11) (.k (.bool true)) (.t 18))), none⟩, ⟨(some 8), (.op (.mv (.t 19))), none⟩])
  (.cond (.t 8) (.seq (.reg [⟨(some 4), (.op (.mv (.k (.int .i64 2)))), none⟩])
  .ret)
  .skip)))))
  (.seq (.reg [⟨(some 4), (.op (.mv (.k (.int .i64 0)))), none⟩])
  .ret)))
def a56 : AF := ⟨20, [(.t 4)], .code b56, none⟩
theorem ok56 : AFOk Try.prog ext 56 a56 := .of Try.func56 (by kernel_rfl) (by kernel_rfl) (by kernel_rfl) (by kernel_rfl)
/-! 57: (*rowlock/stripes.clock).tick -/
def b57 : AC :=
  (.seq (.reg [⟨(some 2), (.op (.mv (.k (.int .u64 0)))), none⟩, ⟨(some 3), (.op (.mv (.k (.int .i64 0)))), none⟩])
  (.seq (.reg [⟨(some 7), (.op (.mv (.t 0))), none⟩, ⟨(some 8), (.op (.nilchk (.t 7))), none⟩, ⟨(some 9), (.op (.faddr 0 (.t 8))), none⟩, ⟨(some 10), (.op (.load (.t 9))), none⟩, ⟨(some 11), (.call (.f 70) [(.t 10)]), none⟩, ⟨(some 6), (.op (.mv (.t 11))), none⟩, ⟨(some 12), (.op (.extract (.t 6) 0)), none⟩, ⟨(some 13), (.op (.extract (.t 6) 1)), none⟩, ⟨(some 4), (.op (.mv (.t 12))), none⟩, ⟨(some 5), (.op (.mv (.t 13))), none⟩])
  (.seq (.seq (.reg [⟨(some 14), (.op (.mv (.t 5))), none⟩, ⟨(some 15), (.op (.bin .neq (.t 14) (.k (.int .i64 0)))), none⟩])
  (.cond (.t 15) (.seq (.reg [⟨(some 16), (.op (.mv (.t 5))), none⟩, ⟨(some 2), (.op (.mv (.k (.int .u64 0)))), none⟩, ⟨(some 3), (.op (.mv (.t 16))), none⟩])
  .ret)
  .skip))
  (.seq (.reg [⟨(some 17), (.op (.mv (.t 0))), none⟩, ⟨(some 18), (.op (.mv (.t 4))), none⟩, ⟨(some 19), (.op (.nilchk (.t 17))), none⟩, ⟨(some 20), (.op (.faddr 0 (.t 19))), none⟩, ⟨none, (.op (.store 1 (.t 20) (.t 18))), none⟩])
  (.seq (.reg [⟨(some 21), (.op (.mv (.t 4))), none⟩, ⟨(some 2), (.op (.mv (.t 21))), none⟩, ⟨(some 3), (.op (.mv (.k (.int .i64 0)))), none⟩])
  .ret)))))
def a57 : AF := ⟨22, [(.t 2), (.t 3)], .code b57, none⟩
theorem ok57 : AFOk Try.prog ext 57 a57 := .of Try.func57 (by kernel_rfl) (by kernel_rfl) (by kernel_rfl) (by kernel_rfl)
/-! 58: rowlock/lockword.split -/
def b58 : AC :=
  (.seq (.reg [⟨(some 2), (.op (.alloc 79 [(.int .i64 0), (.int .u64 0)])), none⟩, ⟨(some 3), (.op (.mv (.k (.bool false)))), none⟩])
  (.seq (.reg [⟨(some 7), (.op (.mv (.t 0))), none⟩, ⟨(some 8), (.call (.f 71) [(.t 7)]), none⟩, ⟨(some 4), (.op (.alloc 90 [(.bool false), (.bool false), (.bool false), (.bool false), (.bool false)])), none⟩, ⟨none, (.op (.store 5 (.t 4) (.t 8))), none⟩])
  (.seq (.reg [⟨(some 9), (.op (.mv (.t 0))), none⟩, ⟨(some 10), (.op (.bin .shr (.t 9) (.k (.int .u64 5)))), none⟩, ⟨(some 11), (.op (.build [(.int .i64 0), (.int .u64 0)] [(0, 1, (.k (.int .i64 (-1)))), (1, 1, (.t 10))])), none⟩, ⟨(some 5), (.op (.alloc 79 [(.int .i64 0), (.int .u64 0)])), none⟩, ⟨none, (.op (.store 2 (.t 5) (.t 11))), none⟩])
  (.seq (.seq (.reg [⟨(some 12), (.op (.loadN 5 (.t 4))), none⟩, ⟨(some 13), (.op (.build [(.bool false), (.bool false), (.bool false), (.bool false), (.bool false)] [])), none⟩, ⟨(some 14), (.op (.eq true (.ar 5 1 false .bool) (.t 12) (.t 13))), none⟩])
  (.cond (.t 14) (.seq (.reg [⟨(some 15), (.op (.faddr 0 (.t 5))), none⟩, ⟨none, (.op (.store 1 (.t 15) (.k (.int .i64 0)))), none⟩])
  (.seq (.seq (.reg [⟨(some 16), (.op (.mv (.k (.int .i64 0)))), none⟩])
  (.block 0 (.loop (.seq (.reg [⟨(some 17), (.op (.bin .lss (.t 16) (.k (.int .i64 4)))), none⟩])
   (.seq (.cond (.t 17) .skip
   (.exit 0))
   (.seq (.block 1 (.seq (.reg [⟨(some 18), (.op (.mv (.t 16))), none⟩, ⟨(some 6), (.op (.mv (.t 18))), none⟩])
   (.seq (.reg [⟨(some 19), (.op (.mv (.t 6))), none⟩, ⟨(some 20), (.op (.bin .add (.t 19) (.k (.int .i64 1)))), none⟩, ⟨(some 21), (.op (.iaddrA 5 1 (.t 4) (.t 20))), none⟩, ⟨(some 22), (.op (.load (.t 21))), none⟩])
   (.cond (.t 22) (.dreg (.quiet ⟨(some 23), (.op (.faddr 0 (.t 5))), none⟩ (.quiet ⟨(some 24), (.op (.load (.t 23))), none⟩ (.quiet ⟨(some 25), (.op (.mv (.t 6))), none⟩ (.quiet ⟨(some 26), (.op (.bin .shl (.k (.int .i64 1)) (.t 25))), none⟩ (.quiet ⟨(some 27), (.op (.bin .or (.t 24) (.t 26))), none⟩ (.quiet ⟨(some 28), (.op (.faddr 0 (.t 5))), none⟩ (.loud ⟨none, (.op (.store 1 (.t 28) (.t 27))), none⟩ [] .nil))))))))
   .skip))))
   (.reg [⟨(some 29), (.op (.bin .add (.t 16) (.k (.int .i64 1)))), none⟩, ⟨(some 16), (.op (.mv (.t 29))), none⟩])))))))
  (.seq (.reg [⟨(some 30), (.op (.iaddrA 5 1 (.t 4) (.k (.int .i64 0)))), none⟩, ⟨(some 31), (.op (.load (.t 30))), none⟩, ⟨(some 32), (.op (.un .not (.t 31))), none⟩])
  (.cond (.t 32) (.seq (.reg [⟨(some 33), (.op (.build [(.int .i64 0), (.int .u64 0)] [])), none⟩, ⟨none, (.op (.store 2 (.t 2) (.t 33))), none⟩, ⟨(some 3), (.op (.mv (.k (.bool false)))), none⟩])
  .ret)
  .skip))))
  .skip))
  (.seq (.dreg (.quiet ⟨(some 34), (.op (.loadN 2 (.t 5))), none⟩ (.quiet ⟨(some 35), (.op (.loadN 2 (.t 5))), none⟩ (.loud ⟨(some 36), (.call (.f 72) [(.t 35)]), none⟩ [⟨(some 34), (.op (.loadN 2 (.t 5))), none⟩] (.loud ⟨none, (.op (.store 2 (.t 2) (.t 34))), none⟩ [] (.loud ⟨(some 3), (.op (.mv (.t 36))), none⟩ [] .nil))))))
  .ret)))))
def a58 : AF := ⟨37, [(.c 2 true 2), (.t 3)], .code b58, none⟩
theorem ok58 : AFOk Try.prog ext 58 a58 := .of Try.func58 (by kernel_rfl) (by kernel_rfl) (by kernel_rfl) (by kernel_rfl)
/-! 59: rowlock/lockword.of -/
def b59 : AC :=
  (.seq (.reg [⟨(some 4), (.op (.alloc 79 [(.int .i64 0), (.int .u64 0)])), none⟩, ⟨(some 5), (.op (.mv (.k (.int .i64 0)))), none⟩])
  (.seq (.reg [⟨(some 9), (.op (.mv (.t 0))), none⟩, ⟨(some 10), (.call (.f 58) [(.t 9)]), none⟩, ⟨(some 8), (.op (.mv (.t 10))), none⟩, ⟨(some 11), (.op (.extract (.t 8) 0)), none⟩, ⟨(some 12), (.op (.extract (.t 8) 1)), none⟩, ⟨(some 6), (.op (.alloc 79 [(.int .i64 0), (.int .u64 0)])), none⟩, ⟨none, (.op (.store 2 (.t 6) (.t 11))), none⟩, ⟨(some 7), (.op (.mv (.t 12))), none⟩])
  (.seq (.block 0 (.seq (.reg [⟨(some 14), (.op (.mv (.t 7))), none⟩, ⟨(some 15), (.op (.un .not (.t 14))), none⟩, ⟨(some 13), (.op (.mv (.t 15))), none⟩])
  (.cond (.t 13) (.seq (.reg [⟨(some 16), (.op (.build [(.int .i64 0), (.int .u64 0)] [])), none⟩, ⟨none, (.op (.store 2 (.t 4) (.t 16))), none⟩, ⟨(some 5), (.op (.mv (.k (.int .i64 3)))), none⟩])
  .ret)
  (.seq (.reg [⟨(some 18), (.op (.mv (.t 1))), none⟩, ⟨(some 19), (.call (.f 73) [(.t 18)]), none⟩, ⟨(some 20), (.op (.un .not (.t 19))), none⟩, ⟨(some 17), (.op (.mv (.t 20))), none⟩])
  (.cond (.t 17) (.seq (.reg [⟨(some 21), (.op (.build [(.int .i64 0), (.int .u64 0)] [])), none⟩, ⟨none, (.op (.store 2 (.t 4) (.t 21))), none⟩, ⟨(some 5), (.op (.mv (.k (.int .i64 2)))), none⟩])
  .ret)
  .skip)))))
  (.seq (.reg [⟨(some 22), (.op (.loadN 2 (.t 6))), none⟩, ⟨none, (.op (.store 2 (.t 4) (.t 22))), none⟩, ⟨(some 5), (.op (.mv (.k (.int .i64 0)))), none⟩])
  .ret))))
def a59 : AF := ⟨23, [(.c 4 true 2), (.t 5)], .code b59, none⟩
theorem ok59 : AFOk Try.prog ext 59 a59 := .of Try.func59 (by kernel_rfl) (by kernel_rfl) (by kernel_rfl) (by kernel_rfl)
/-! 60: rowlock/lockword.said -/
def b60 : AC :=
  (.seq (.reg [⟨(some 1), (.op (.box 79 (.t 0))), none⟩, ⟨(some 2), (.op (.mv (.k (.int .u64 0)))), none⟩, ⟨(some 3), (.op (.mv (.k (.int .i64 0)))), none⟩])
  (.seq (.seq (.reg [⟨(some 4), (.op (.loadN 2 (.t 1))), none⟩, ⟨(some 5), (.call (.f 72) [(.t 4)]), none⟩, ⟨(some 6), (.op (.un .not (.t 5))), none⟩])
  (.cond (.t 6) (.seq (.reg [⟨(some 2), (.op (.mv (.k (.int .u64 0)))), none⟩, ⟨(some 3), (.op (.mv (.k (.int .i64 2)))), none⟩])
  .ret)
  .skip))
  (.seq (.reg [⟨(some 7), (.op (.loadN 2 (.t 1))), none⟩, ⟨(some 8), (.call (.f 74) [(.t 7)]), none⟩, ⟨(some 2), (.op (.mv (.t 8))), none⟩, ⟨(some 3), (.op (.mv (.k (.int .i64 0)))), none⟩])
  .ret)))
def a60 : AF := ⟨9, [(.t 2), (.t 3)], .code b60, none⟩
theorem ok60 : AFOk Try.prog ext 60 a60 := .of Try.func60 (by kernel_rfl) (by kernel_rfl) (by kernel_rfl) (by kernel_rfl)
/-! 61: rowlock/lockword.Free -/
def b61 : AC :=
  (.seq (.reg [⟨(some 2), (.op (.mv (.k (.int .u64 0)))), none⟩, ⟨(some 3), (.op (.mv (.k (.int .i64 0)))), none⟩])
  (.seq (.reg [⟨(some 4), (.op (.mv (.t 0))), none⟩, ⟨(some 5), (.op (.build [(.int .i64 0), (.int .u64 0)] [(0, 1, (.k (.int .i64 (-1)))), (1, 1, (.t 4))])), none⟩, ⟨(some 6), (.call (.f 60) [(.t 5)]), none⟩, ⟨(some 7), (.op (.extract (.t 6) 0)), none⟩, ⟨(some 8), (.op (.extract (.t 6) 1)), none⟩, ⟨(some 2), (.op (.mv (.t 7))), none⟩, ⟨(some 3), (.op (.mv (.t 8))), none⟩])
  .ret))
def a61 : AF := ⟨9, [(.t 2), (.t 3)], .code b61, none⟩
theorem ok61 : AFOk Try.prog ext 61 a61 := .of Try.func61 (by kernel_rfl) (by kernel_rfl) (by kernel_rfl) (by kernel_rfl)
/-! 62: (*rowlock/stripes.Table).held$1 -/
def b62 : AC :=
  (.seq (.seq (.reg [⟨(some 9), (.op (.load (.t 1))), none⟩, ⟨(some 10), (.op (.eq false .ptr (.t 9) (.k (.pointer none)))), none⟩])
  (.cond (.t 10) .ret
  .skip))
  (.seq (.reg [⟨(some 11), (.op (.load (.t 1))), none⟩, ⟨(some 12), (.op (.nilchk (.t 11))), none⟩, ⟨(some 13), (.op (.faddr 1 (.t 12))), none⟩, ⟨(some 14), (.op (.load (.t 13))), none⟩, ⟨(some 15), (.op (.lenS (.t 14))), none⟩, ⟨(some 16), (.op (.mv (.k (.int .i64 0)))), none⟩])
  (.block 0 (.loop (.seq (.reg [⟨(some 17), (.op (.bin .lss (.t 16) (.t 15))), none⟩])
   (.seq (.cond (.t 17) .skip
   (.exit 0))
   (.seq (.block 1 (.seq (.reg [⟨(some 18), (.op (.mv (.t 16))), none⟩, ⟨(some 19), (.op (.iaddrS 1 (.t 14) (.t 16))), none⟩, ⟨(some 20), (.op (.load (.t 19))), none⟩, ⟨(some 4), (.op (.mv (.t 18))), none⟩, ⟨(some 5), (.op (.mv (.t 20))), none⟩])
   (.seq (.reg [⟨(some 22), (.op (.mv (.t 5))), none⟩, ⟨(some 23), (.call (.f 32) [(.t 22)]), none⟩, ⟨(some 21), (.op (.mv (.t 23))), none⟩, ⟨(some 24), (.op (.extract (.t 21) 0)), none⟩, ⟨(some 25), (.op (.extract (.t 21) 1)), none⟩, ⟨(some 26), (.op (.extract (.t 21) 2)), none⟩, ⟨(some 6), (.op (.mv (.t 24))), none⟩, ⟨(some 7), (.op (.mv (.t 25))), none⟩, ⟨(some 8), (.op (.mv (.t 26))), none⟩])
   (.seq (.reg [⟨(some 27), (.op (.mv (.t 6))), none⟩, ⟨(some 28), (.op (.load (.t 2))), none⟩, ⟨(some 29), (.op (.bin .eql (.t 27) (.t 28))), none⟩, ⟨(some 30), (.op (.mv (.t 29))), none⟩, ⟨(some 31), (.op (.mv (.t 6))), (some (30, true))⟩, ⟨(some 32), (.op (.bin .geq (.t 31) (.k (.int .i64 0)))), (some (30, true))⟩, ⟨(some 33), (.op (.pick (.t 30) (.t 32) (.k (.bool false)))), none⟩, ⟨(some 34), (.op (.mv (.t 33))), none⟩, ⟨(some 35), (.op (.mv (.t 0))), (some (34, true))⟩, ⟨(some 36), (.op (.mv (.t 4))), (some (34, true))⟩, ⟨(some 37), (.call (.t 35) [(.t 36)]), (some (34, true))⟩, ⟨(some 38), (.op (.un .not (.t 37))), (some (34, true))⟩, ⟨(some 39), (.op (.pick (.t 34) (.t 38) (.k (.bool false)))), none⟩])
   (.cond (.t 39) .ret
   .skip)))))
   (.reg [⟨(some 40), (.op (.bin .add (.t 16) (.k (.int .i64 1)))), none⟩, ⟨(some 16), (.op (.mv (.t 40))), none⟩]))))))))
def a62 : AF := ⟨41, [], .code b62, none⟩
theorem ok62 : AFOk Try.prog ext 62 a62 := .of Try.func62 (by kernel_rfl) (by kernel_rfl) (by kernel_rfl) (by kernel_rfl)
/-! 63: rowlock/rowlockref03.Lock -/
def b63 : AC :=
  (.seq (.reg [⟨(some 4), (.op (.mv (.k (.int .u64 0)))), none⟩, ⟨(some 5), (.op (.mv (.k (.int .i64 0)))), none⟩])
  (.seq (.reg [⟨(some 10), (.op (.mv (.t 0))), none⟩, ⟨(some 11), (.call (.f 67) [(.t 10)]), none⟩, ⟨(some 9), (.op (.mv (.t 11))), none⟩, ⟨(some 12), (.op (.extract (.t 9) 0)), none⟩, ⟨(some 13), (.op (.extract (.t 9) 1)), none⟩, ⟨(some 14), (.op (.extract (.t 9) 2)), none⟩, ⟨(some 6), (.op (.mv (.t 12))), none⟩, ⟨(some 7), (.op (.mv (.t 13))), none⟩, ⟨(some 8), (.op (.mv (.t 14))), none⟩])
  (.seq (.block 0 (.seq (.reg [⟨(some 16), (.op (.mv (.t 8))), none⟩, ⟨(some 17), (.op (.bin .neq (.t 16) (.k (.int .i64 0)))), none⟩, ⟨(some 15), (.op (.mv (.t 17))), none⟩])
  (.cond (.t 15) (.seq (.reg [⟨(some 18), (.op (.mv (.t 8))), none⟩, ⟨(some 4), (.op (.mv (.k (.int .u64 0)))), none⟩, ⟨(some 5), (.op (.mv (.t 18))), none⟩])
  .ret)
  (.seq (.reg [⟨(some 20), (.op (.mv (.t 1))), none⟩, ⟨(some 21), (.call (.f 75) [(.t 20)]), none⟩, ⟨(some 22), (.op (.un .not (.t 21))), none⟩, ⟨(some 19), (.op (.mv (.t 22))), none⟩])
  (.cond (.t 19) (.seq (.reg [⟨(some 4), (.op (.mv (.k (.int .u64 0)))), none⟩, ⟨(some 5), (.op (.mv (.k (.int .i64 2)))), none⟩])
  .ret)
  (.seq (.reg [⟨(some 24), (.op (.mv (.t 6))), none⟩, ⟨(some 25), (.op (.mv (.t 1))), none⟩, ⟨(some 26), (.op (.bin .eql (.t 24) (.t 25))), none⟩, ⟨(some 23), (.op (.mv (.t 26))), none⟩])
  (.cond (.t 23) (.seq (.reg [⟨(some 4), (.op (.mv (.k (.int .u64 0)))), none⟩, ⟨(some 5), (.op (.mv (.k (.int .i64 6)))), none⟩])
  .ret)
  (.seq (.reg [⟨(some 28), (.op (.mv (.t 6))), none⟩, ⟨(some 29), (.op (.bin .geq (.t 28) (.k (.int .i64 0)))), none⟩, ⟨(some 27), (.op (.mv (.t 29))), none⟩])
  (.cond (.t 27) (.seq (.reg [⟨(some 4), (.op (.mv (.k (.int .u64 0)))), none⟩, ⟨(some 5), (.op (.mv (.k (.int .i64 7)))), none⟩])
  .ret)
  .skip)))))))))
  (.seq (.reg [⟨(some 30), (.op (.mv (.t 1))), none⟩, ⟨(some 31), (.op (.mv (.t 7))), none⟩, ⟨(some 32), (.call (.f 76) [(.t 30), (.t 31)]), none⟩, ⟨(some 33), (.op (.extract (.t 32) 0)), none⟩, ⟨(some 34), (.op (.extract (.t 32) 1)), none⟩, ⟨(some 4), (.op (.mv (.t 33))), none⟩, ⟨(some 5), (.op (.mv (.t 34))), none⟩])
  .ret))))
def a63 : AF := ⟨35, [(.t 4), (.t 5)], .code b63, none⟩
theorem ok63 : AFOk Try.prog ext 63 a63 := .of Try.func63 (by kernel_rfl) (by kernel_rfl) (by kernel_rfl) (by kernel_rfl)
/-! 64: rowlock/rowlockref03.Unlock -/
def b64 : AC :=
  (.seq (.reg [⟨(some 6), (.op (.mv (.k (.int .u64 0)))), none⟩, ⟨(some 7), (.op (.mv (.k (.int .i64 0)))), none⟩])
  (.seq (.reg [⟨(some 12), (.op (.mv (.t 0))), none⟩, ⟨(some 13), (.call (.f 67) [(.t 12)]), none⟩, ⟨(some 11), (.op (.mv (.t 13))), none⟩, ⟨(some 14), (.op (.extract (.t 11) 0)), none⟩, ⟨(some 15), (.op (.extract (.t 11) 1)), none⟩, ⟨(some 16), (.op (.extract (.t 11) 2)), none⟩, ⟨(some 8), (.op (.mv (.t 14))), none⟩, ⟨(some 9), (.op (.mv (.t 15))), none⟩, ⟨(some 10), (.op (.mv (.t 16))), none⟩])
  (.seq (.block 0 (.seq (.reg [⟨(some 18), (.op (.mv (.t 10))), none⟩, ⟨(some 19), (.op (.bin .neq (.t 18) (.k (.int .i64 0)))), none⟩, ⟨(some 17), (.op (.mv (.t 19))), none⟩])
  (.cond (.t 17) (.seq (.reg [⟨(some 20), (.op (.mv (.t 10))), none⟩, ⟨(some 6), (.op (.mv (.k (.int .u64 0)))), none⟩, ⟨(some 7), (.op (.mv (.t 20))), none⟩])
  .ret)
  (.seq (.reg [⟨(some 22), (.op (.mv (.t 1))), none⟩, ⟨(some 23), (.call (.f 75) [(.t 22)]), none⟩, ⟨(some 24), (.op (.un .not (.t 23))), none⟩, ⟨(some 25), (.op (.mv (.t 24))), none⟩, ⟨(some 26), (.op (.mv (.t 2))), (some (25, false))⟩, ⟨(some 27), (.op (.bin .gtr (.t 26) (.k (.int .u64 1099511627776)))), (some (25, false))⟩, ⟨(some 28), (.op (.pick (.t 25) (.k (.bool true)) (.t 27))), none⟩, ⟨(some 21), (.op (.mv (.t 28))), none⟩])
  (.cond (.t 21) (.seq (.reg [⟨(some 6), (.op (.mv (.k (.int .u64 0)))), none⟩, ⟨(some 7), (.op (.mv (.k (.int .i64 2)))), none⟩])
  .ret)
  (.seq (.reg [⟨(some 30), (.op (.mv (.t 8))), none⟩, ⟨(some 31), (.op (.mv (.t 1))), none⟩, ⟨(some 32), (.op (.bin .neq (.t 30) (.t 31))), none⟩, ⟨(some 33), (.op (.mv (.t 32))), none⟩, ⟨(some 34), (.op (.mv (.t 2))), (some (33, false))⟩, ⟨(some 35), (.op (.mv (.t 9))), (some (33, false))⟩, ⟨(some 36), (.op (.bin .lss (.t 34) (.t 35))), (some (33, false))⟩, ⟨(some 37), (.op (.pick (.t 33) (.k (.bool true)) (.t 36))), none⟩, ⟨(some 29), (.op (.mv (.t 37))), none⟩])
  (.cond (.t 29) (.seq (.reg [⟨(some 6), (.op (.mv (.k (.int .u64 0)))), none⟩, ⟨(some 7), (.op (.mv (.k (.int .i64 8)))), none⟩])
  .ret)
  .skip)))))))
  (.seq (.reg [⟨(some 38), (.op (.mv (.t 2))), none⟩, ⟨(some 39), (.call (.f 77) [(.t 38)]), none⟩, ⟨(some 40), (.op (.extract (.t 39) 0)), none⟩, ⟨(some 41), (.op (.extract (.t 39) 1)), none⟩, ⟨(some 6), (.op (.mv (.t 40))), none⟩, ⟨(some 7), (.op (.mv (.t 41))), none⟩])
  .ret))))
def a64 : AF := ⟨42, [(.t 6), (.t 7)], .code b64, none⟩
theorem ok64 : AFOk Try.prog ext 64 a64 := .of Try.func64 (by kernel_rfl) (by kernel_rfl) (by kernel_rfl) (by kernel_rfl)
/-! 65: rowlock/rowlockref03.Restore -/
def b65 : AC :=
  (.seq (.reg [⟨(some 4), (.op (.mv (.k (.int .u64 0)))), none⟩, ⟨(some 5), (.op (.mv (.k (.int .i64 0)))), none⟩])
  (.seq (.reg [⟨(some 10), (.op (.mv (.t 0))), none⟩, ⟨(some 11), (.call (.f 67) [(.t 10)]), none⟩, ⟨(some 9), (.op (.mv (.t 11))), none⟩, ⟨(some 12), (.op (.extract (.t 9) 0)), none⟩, ⟨(some 13), (.op (.extract (.t 9) 1)), none⟩, ⟨(some 14), (.op (.extract (.t 9) 2)), none⟩, ⟨(some 6), (.op (.mv (.t 12))), none⟩, ⟨(some 7), (.op (.mv (.t 13))), none⟩, ⟨(some 8), (.op (.mv (.t 14))), none⟩])
  (.seq (.block 0 (.seq (.reg [⟨(some 16), (.op (.mv (.t 8))), none⟩, ⟨(some 17), (.op (.bin .neq (.t 16) (.k (.int .i64 0)))), none⟩, ⟨(some 15), (.op (.mv (.t 17))), none⟩])
  (.cond (.t 15) (.seq (.reg [⟨(some 18), (.op (.mv (.t 8))), none⟩, ⟨(some 4), (.op (.mv (.k (.int .u64 0)))), none⟩, ⟨(some 5), (.op (.mv (.t 18))), none⟩])
  .ret)
  (.seq (.reg [⟨(some 20), (.op (.mv (.t 1))), none⟩, ⟨(some 21), (.call (.f 75) [(.t 20)]), none⟩, ⟨(some 22), (.op (.un .not (.t 21))), none⟩, ⟨(some 19), (.op (.mv (.t 22))), none⟩])
  (.cond (.t 19) (.seq (.reg [⟨(some 4), (.op (.mv (.k (.int .u64 0)))), none⟩, ⟨(some 5), (.op (.mv (.k (.int .i64 2)))), none⟩])
  .ret)
  (.seq (.reg [⟨(some 24), (.op (.mv (.t 6))), none⟩, ⟨(some 25), (.op (.mv (.t 1))), none⟩, ⟨(some 26), (.op (.bin .neq (.t 24) (.t 25))), none⟩, ⟨(some 23), (.op (.mv (.t 26))), none⟩])
  (.cond (.t 23) (.seq (.reg [⟨(some 4), (.op (.mv (.k (.int .u64 0)))), none⟩, ⟨(some 5), (.op (.mv (.k (.int .i64 8)))), none⟩])
  .ret)
  .skip)))))))
  (.seq (.reg [⟨(some 27), (.op (.mv (.t 7))), none⟩, ⟨(some 28), (.call (.f 77) [(.t 27)]), none⟩, ⟨(some 29), (.op (.extract (.t 28) 0)), none⟩, ⟨(some 30), (.op (.extract (.t 28) 1)), none⟩, ⟨(some 4), (.op (.mv (.t 29))), none⟩, ⟨(some 5), (.op (.mv (.t 30))), none⟩])
  .ret))))
def a65 : AF := ⟨31, [(.t 4), (.t 5)], .code b65, none⟩
theorem ok65 : AFOk Try.prog ext 65 a65 := .of Try.func65 (by kernel_rfl) (by kernel_rfl) (by kernel_rfl) (by kernel_rfl)
/-! 66: rowlock/rowlockref03.Next -/
def b66 : AC :=
  (.seq (.reg [⟨(some 2), (.op (.mv (.k (.int .u64 0)))), none⟩, ⟨(some 3), (.op (.mv (.k (.int .i64 0)))), none⟩])
  (.seq (.block 0 (.seq (.reg [⟨(some 5), (.op (.mv (.t 0))), none⟩, ⟨(some 6), (.op (.bin .gtr (.t 5) (.k (.int .u64 1099511627776)))), none⟩, ⟨(some 4), (.op (.mv (.t 6))), none⟩])
  (.cond (.t 4) (.seq (.reg [⟨(some 2), (.op (.mv (.k (.int .u64 0)))), none⟩, ⟨(some 3), (.op (.mv (.k (.int .i64 2)))), none⟩])
  .ret)
  (.seq (.reg [⟨(some 8), (.op (.mv (.t 0))), none⟩, ⟨(some 9), (.op (.bin .eql (.t 8) (.k (.int .u64 1099511627776)))), none⟩, ⟨(some 7), (.op (.mv (.t 9))), none⟩])
  (.cond (.t 7) (.seq (.reg [⟨(some 2), (.op (.mv (.k (.int .u64 0)))), none⟩, ⟨(some 3), (.op (.mv (.k (.int .i64 4)))), none⟩])
  .ret)
  .skip)))))
  (.seq (.reg [⟨(some 10), (.op (.mv (.t 0))), none⟩, ⟨(some 11), (.op (.bin .add (.t 10) (.k (.int .u64 1)))), none⟩, ⟨(some 2), (.op (.mv (.t 11))), none⟩, ⟨(some 3), (.op (.mv (.k (.int .i64 0)))), none⟩])
  .ret)))
def a66 : AF := ⟨12, [(.t 2), (.t 3)], .code b66, none⟩
theorem ok66 : AFOk Try.prog ext 66 a66 := .of Try.func66 (by kernel_rfl) (by kernel_rfl) (by kernel_rfl) (by kernel_rfl)
/-! 67: rowlock/rowlockref03.Read -/
def b67 : AC :=
  (.seq (.reg [⟨(some 2), (.op (.mv (.k (.int .i64 0)))), none⟩, ⟨(some 3), (.op (.mv (.k (.int .u64 0)))), none⟩, ⟨(some 4), (.op (.mv (.k (.int .i64 0)))), none⟩])
  (.seq (.reg [⟨(some 9), (.op (.mv (.t 0))), none⟩, ⟨(some 10), (.op (.bin .quo (.t 9) (.k (.int .u64 32)))), none⟩, ⟨(some 5), (.op (.mv (.t 10))), none⟩])
  (.seq (.seq (.reg [⟨(some 11), (.op (.mv (.t 5))), none⟩, ⟨(some 12), (.op (.bin .gtr (.t 11) (.k (.int .u64 1099511627776)))), none⟩])
  (.cond (.t 12) (.seq (.reg [⟨(some 2), (.op (.mv (.k (.int .i64 0)))), none⟩, ⟨(some 3), (.op (.mv (.k (.int .u64 0)))), none⟩, ⟨(some 4), (.op (.mv (.k (.int .i64 3)))), none⟩])
  .ret)
  .skip))
  (.seq (.seq (.reg [⟨(some 13), (.op (.mv (.t 0))), none⟩, ⟨(some 14), (.op (.bin .rem (.t 13) (.k (.int .u64 32)))), none⟩, ⟨(some 15), (.op (.bin .eql (.t 14) (.k (.int .u64 0)))), none⟩])
  (.cond (.t 15) (.seq (.reg [⟨(some 16), (.op (.mv (.t 5))), none⟩, ⟨(some 2), (.op (.mv (.k (.int .i64 (-1))))), none⟩, ⟨(some 3), (.op (.mv (.t 16))), none⟩, ⟨(some 4), (.op (.mv (.k (.int .i64 0)))), none⟩])
  .ret)
  .skip))
  (.seq (.seq (.reg [⟨(some 6), (.op (.mv (.k (.int .i64 0)))), none⟩])
  (.block 0 (.loop (.seq (.seq (.reg [⟨(some 17), (.op (.mv (.t 6))), none⟩, ⟨(some 18), (.op (.bin .lss (.t 17) (.k (.int .i64 4)))), none⟩])
   (.cond (.t 18) .skip
   (.exit 0)))
   (.seq (.block 1 (.seq (.reg [⟨(some 22), (.op (.mv (.t 6))), none⟩, ⟨(some 23), (.op (.mv (.t 5))), none⟩, ⟨(some 24), (.call (.f 76) [(.t 22), (.t 23)]), none⟩, ⟨(some 21), (.op (.mv (.t 24))), none⟩, ⟨(some 25), (.op (.extract (.t 21) 0)), none⟩, ⟨(some 26), (.op (.extract (.t 21) 1)), none⟩, ⟨(some 7), (.op (.mv (.t 25))), none⟩, ⟨(some 8), (.op (.mv (.t 26))), none⟩])
   (.seq (.reg [⟨(some 27), (.op (.mv (.t 7))), none⟩, ⟨(some 28), (.op (.mv (.t 0))), none⟩, ⟨(some 29), (.op (.bin .eql (.t 27) (.t 28))), none⟩])
   (.cond (.t 29) (.seq (.reg [⟨(some 30), (.op (.mv (.t 6))), none⟩, ⟨(some 31), (.op (.mv (.t 5))), none⟩, ⟨(some 2), (.op (.mv (.t 30))), none⟩, ⟨(some 3), (.op (.mv (.t 31))), none⟩, ⟨(some 4), (.op (.mv (.k (.int .i64 0)))), none⟩])
   .ret)
   .skip))))
   (.reg [⟨(some 19), (.op (.mv (.t 6))), none⟩, ⟨(some 20), (.op (.bin .add (.t 19) (.k (.int .i64 1)))), none⟩, ⟨(some 6), (.op (.mv (.t 20))), none⟩]))))))
  (.seq (.reg [⟨(some 2), (.op (.mv (.k (.int .i64 0)))), none⟩, ⟨(some 3), (.op (.mv (.k (.int .u64 0)))), none⟩, ⟨(some 4), (.op (.mv (.k (.int .i64 3)))), none⟩])
  .ret))))))
def a67 : AF := ⟨32, [(.t 2), (.t 3), (.t 4)], .code b67, none⟩
theorem ok67 : AFOk Try.prog ext 67 a67 := .of Try.func67 (by kernel_rfl) (by kernel_rfl) (by kernel_rfl) (by kernel_rfl)
/-! 68: slices.pdqsortOrdered[int] -/
def b68 : AC :=
  (.seq (.reg [⟨(some 8), (.op (.mv (.k (.bool true)))), none⟩])
  (.seq (.reg [⟨(some 9), (.op (.mv (.k (.bool true)))), none⟩])
  (.block 0 (.loop (.block 1 (.seq (.reg [⟨(some 19), (.op (.mv (.t 2))), none⟩, ⟨(some 20), (.op (.mv (.t 1))), none⟩, ⟨(some 21), (.op (.bin .sub (.t 19) (.t 20))), none⟩, ⟨(some 10), (.op (.mv (.t 21))), none⟩])
   (.seq (.seq (.reg [⟨(some 22), (.op (.mv (.t 10))), none⟩, ⟨(some 23), (.op (.bin .leq (.t 22) (.k (.int .i64 12)))), none⟩])
   (.cond (.t 23) (.seq (.reg [⟨(some 24), (.op (.mv (.t 0))), none⟩, ⟨(some 25), (.op (.mv (.t 1))), none⟩, ⟨(some 26), (.op (.mv (.t 2))), none⟩, ⟨(some 27), (.call (.f 78) [(.t 24), (.t 25), (.t 26)]), none⟩])
   .ret)
   .skip))
   (.seq (.seq (.reg [⟨(some 28), (.op (.mv (.t 3))), none⟩, ⟨(some 29), (.op (.bin .eql (.t 28) (.k (.int .i64 0)))), none⟩])
   (.cond (.t 29) (.seq (.reg [⟨(some 30), (.op (.mv (.t 0))), none⟩, ⟨(some 31), (.op (.mv (.t 1))), none⟩, ⟨(some 32), (.op (.mv (.t 2))), none⟩, ⟨(some 33), (.call (.f 79) [(.t 30), (.t 31), (.t 32)]), none⟩])
   .ret)
   .skip))
   (.seq (.seq (.reg [⟨(some 34), (.op (.mv (.t 8))), none⟩, ⟨(some 35), (.op (.un .not (.t 34))), none⟩])
   (.cond (.t 35) (.seq (.reg [⟨(some 36), (.op (.mv (.t 0))), none⟩, ⟨(some 37), (.op (.mv (.t 1))), none⟩, ⟨(some 38), (.op (.mv (.t 2))), none⟩, ⟨(some 39), (.call (.f 80) [(.t 36), (.t 37), (.t 38)]), none⟩])
   (.reg [⟨(some 40), (.op (.mv (.t 3))), none⟩, ⟨(some 41), (.op (.bin .sub (.t 40) (.k (.int .i64 1)))), none⟩, ⟨(some 3), (.op (.mv (.t 41))), none⟩]))
   .skip))
   (.seq (.reg [⟨(some 43), (.op (.mv (.t 0))), none⟩, ⟨(some 44), (.op (.mv (.t 1))), none⟩, ⟨(some 45), (.op (.mv (.t 2))), none⟩, ⟨(some 46), (.call (.f 81) [(.t 43), (.t 44), (.t 45)]), none⟩, ⟨(some 42), (.op (.mv (.t 46))), none⟩, ⟨(some 47), (.op (.extract (.t 42) 0)), none⟩, ⟨(some 48), (.op (.extract (.t 42) 1)), none⟩, ⟨(some 11), (.op (.mv (.t 47))), none⟩, ⟨(some 12), (.op (.mv (.t 48))), none⟩])
   (.seq (.seq (.reg [⟨(some 49), (.op (.mv (.t 12))), none⟩, ⟨(some 50), (.op (.bin .eql (.t 49) (.k (.int .i64 2)))), none⟩])
   (.cond (.t 50) (.seq (.reg [⟨(some 51), (.op (.mv (.t 0))), none⟩, ⟨(some 52), (.op (.mv (.t 1))), none⟩, ⟨(some 53), (.op (.mv (.t 2))), none⟩, ⟨(some 54), (.call (.f 82) [(.t 51), (.t 52), (.t 53)]), none⟩])
   (.seq (.reg [⟨(some 55), (.op (.mv (.t 2))), none⟩, ⟨(some 56), (.op (.bin .sub (.t 55) (.k (.int .i64 1)))), none⟩, ⟨(some 57), (.op (.mv (.t 11))), none⟩, ⟨(some 58), (.op (.mv (.t 1))), none⟩, ⟨(some 59), (.op (.bin .sub (.t 57) (.t 58))), none⟩, ⟨(some 60), (.op (.bin .sub (.t 56) (.t 59))), none⟩, ⟨(some 11), (.op (.mv (.t 60))), none⟩])
   (.reg [⟨(some 12), (.op (.mv (.k (.int .i64 1)))), none⟩])))
   .skip))
   (.seq (.seq (.reg [⟨(some 61), (.op (.mv (.t 8))), none⟩, ⟨(some 62), (.op (.mv (.t 61))), none⟩, ⟨(some 63), (.op (.mv (.t 9))), (some (62, true))⟩, ⟨(some 64), (.op (.pick (.t 62) (.t 63) (.k (.bool false)))), none⟩, ⟨(some 65), (.op (.mv (.t 64))), none⟩, ⟨(some 66), (.op (.mv (.t 12))), (some (65, true))⟩, ⟨(some 67), (.op (.bin .eql (.t 66) (.k (.int .i64 1)))), (some (65, true))⟩, ⟨(some 68), (.op (.pick (.t 65) (.t 67) (.k (.bool false)))), none⟩])
   (.cond (.t 68) (.seq (.reg [⟨(some 69), (.op (.mv (.t 0))), none⟩, ⟨(some 70), (.op (.mv (.t 1))), none⟩, ⟨(some 71), (.op (.mv (.t 2))), none⟩, ⟨(some 72), (.call (.f 83) [(.t 69), (.t 70), (.t 71)]), none⟩])
   (.cond (.t 72) .ret
   .skip))
   .skip))
   (.seq (.seq (.dreg (.quiet ⟨(some 73), (.op (.mv (.t 1))), none⟩ (.quiet ⟨(some 74), (.op (.bin .gtr (.t 73) (.k (.int .i64 0)))), none⟩ (.quiet ⟨(some 75), (.op (.mv (.t 74))), none⟩ (.quiet ⟨(some 76), (.op (.mv (.t 0))), (some (75, true))⟩ (.quiet ⟨(some 77), (.op (.mv (.t 1))), (some (75, true))⟩ (.quiet ⟨(some 78), (.op (.bin .sub (.t 77) (.k (.int .i64 1)))), (some (75, true))⟩ (.quiet ⟨(some 79), (.op (.iaddrS 1 (.t 76) (.t 78))), (some (75, true))⟩ (.quiet ⟨(some 80), (.op (.load (.t 79))), (some (75, true))⟩ (.quiet ⟨(some 81), (.op (.mv (.t 0))), (some (75, true))⟩ (.quiet ⟨(some 82), (.op (.mv (.t 11))), (some (75, true))⟩ (.quiet ⟨(some 83), (.op (.iaddrS 1 (.t 81) (.t 82))), (some (75, true))⟩ (.quiet ⟨(some 84), (.op (.load (.t 83))), (some (75, true))⟩ (.loud ⟨(some 85), (.call (.f 84) [(.t 80), (.t 84)]), (some (75, true))⟩ [] (.quiet ⟨(some 86), (.op (.un .not (.t 85))), (some (75, true))⟩ (.quiet ⟨(some 87), (.op (.pick (.t 75) (.t 86) (.k (.bool false)))), none⟩ .nil))))))))))))))))
   (.cond (.t 87) (.seq (.reg [⟨(some 88), (.op (.mv (.t 0))), none⟩, ⟨(some 89), (.op (.mv (.t 1))), none⟩, ⟨(some 90), (.op (.mv (.t 2))), none⟩, ⟨(some 91), (.op (.mv (.t 11))), none⟩, ⟨(some 92), (.call (.f 85) [(.t 88), (.t 89), (.t 90), (.t 91)]), none⟩, ⟨(some 13), (.op (.mv (.t 92))), none⟩])
   (.seq (.reg [⟨(some 93), (.op (.mv (.t 13))), none⟩, ⟨(some 1), (.op (.mv (.t 93))), none⟩])
   (.exit 1)))
   .skip))
   (.seq (.reg [⟨(some 95), (.op (.mv (.t 0))), none⟩, ⟨(some 96), (.op (.mv (.t 1))), none⟩, ⟨(some 97), (.op (.mv (.t 2))), none⟩, ⟨(some 98), (.op (.mv (.t 11))), none⟩, ⟨(some 99), (.call (.f 86) [(.t 95), (.t 96), (.t 97), (.t 98)]), none⟩, ⟨(some 94), (.op (.mv (.t 99))), none⟩, ⟨(some 100), (.op (.extract (.t 94) 0)), none⟩, ⟨(some 101), (.op (.extract (.t 94) 1)), none⟩, ⟨(some 14), (.op (.mv (.t 100))), none⟩, ⟨(some 15), (.op (.mv (.t 101))), none⟩])
   (.seq (.reg [⟨(some 102), (.op (.mv (.t 15))), none⟩, ⟨(some 9), (.op (.mv (.t 102))), none⟩])
   (.seq (.reg [⟨(some 103), (.op (.mv (.t 14))), none⟩, ⟨(some 104), (.op (.mv (.t 1))), none⟩, ⟨(some 105), (.op (.bin .sub (.t 103) (.t 104))), none⟩, ⟨(some 106), (.op (.mv (.t 2))), none⟩, ⟨(some 107), (.op (.mv (.t 14))), none⟩, ⟨(some 108), (.op (.bin .sub (.t 106) (.t 107))), none⟩, ⟨(some 16), (.op (.mv (.t 105))), none⟩, ⟨(some 17), (.op (.mv (.t 108))), none⟩])
   (.seq (.reg [⟨(some 109), (.op (.mv (.t 10))), none⟩, ⟨(some 110), (.op (.bin .quo (.t 109) (.k (.int .i64 8)))), none⟩, ⟨(some 18), (.op (.mv (.t 110))), none⟩])
   (.seq (.reg [⟨(some 111), (.op (.mv (.t 16))), none⟩, ⟨(some 112), (.op (.mv (.t 17))), none⟩, ⟨(some 113), (.op (.bin .lss (.t 111) (.t 112))), none⟩])
   (.cond (.t 113) (.seq (.reg [⟨(some 114), (.op (.mv (.t 16))), none⟩, ⟨(some 115), (.op (.mv (.t 18))), none⟩, ⟨(some 116), (.op (.bin .geq (.t 114) (.t 115))), none⟩, ⟨(some 8), (.op (.mv (.t 116))), none⟩])
   (.seq (.reg [⟨(some 117), (.op (.mv (.t 0))), none⟩, ⟨(some 118), (.op (.mv (.t 1))), none⟩, ⟨(some 119), (.op (.mv (.t 14))), none⟩, ⟨(some 120), (.op (.mv (.t 3))), none⟩, ⟨(some 121), (.call (.f 68) [(.t 117), (.t 118), (.t 119), (.t 120)]), none⟩])
   (.reg [⟨(some 122), (.op (.mv (.t 14))), none⟩, ⟨(some 123), (.op (.bin .add (.t 122) (.k (.int .i64 1)))), none⟩, ⟨(some 1), (.op (.mv (.t 123))), none⟩])))
   (.seq (.reg [⟨(some 124), (.op (.mv (.t 17))), none⟩, ⟨(some 125), (.op (.mv (.t 18))), none⟩, ⟨(some 126), (.op (.bin .geq (.t 124) (.t 125))), none⟩, ⟨(some 8), (.op (.mv (.t 126))), none⟩])
   (.seq (.reg [⟨(some 127), (.op (.mv (.t 0))), none⟩, ⟨(some 128), (.op (.mv (.t 14))), none⟩, ⟨(some 129), (.op (.bin .add (.t 128) (.k (.int .i64 1)))), none⟩, ⟨(some 130), (.op (.mv (.t 2))), none⟩, ⟨(some 131), (.op (.mv (.t 3))), none⟩, ⟨(some 132), (.call (.f 68) [(.t 127), (.t 129), (.t 130), (.t 131)]), none⟩])
   (.reg [⟨(some 133), (.op (.mv (.t 14))), none⟩, ⟨(some 2), (.op (.mv (.t 133))), none⟩]))))))))))))))))))))))
def a68 : AF := ⟨134, [], .code b68, none⟩
theorem ok68 : AFOk Try.prog ext 68 a68 := .of Try.func68 (by kernel_rfl) (by kernel_rfl) (by kernel_rfl) (by kernel_rfl)
/-! 69: math/bits.Len -/
def b69 : AC :=
  (.seq (.reg [⟨(some 2), (.op (.mv (.k (.int .i64 0)))), none⟩])
  (.seq (.cond (.k (.bool false)) (.seq (.reg [⟨(some 3), (.op (.mv (.t 0))), none⟩, ⟨(some 4), (.op (.conv (.int .u32) (.t 3))), none⟩, ⟨(some 5), (.call (.f 87) [(.t 4)]), none⟩, ⟨(some 2), (.op (.mv (.t 5))), none⟩])
  .ret)
  .skip)
  (.seq (.reg [⟨(some 6), (.op (.mv (.t 0))), none⟩, ⟨(some 7), (.call (.f 88) [(.t 6)]), none⟩, ⟨(some 2), (.op (.mv (.t 7))), none⟩])
  .ret)))
def a69 : AF := ⟨8, [(.t 2)], .code b69, none⟩
theorem ok69 : AFOk Try.prog ext 69 a69 := .of Try.func69 (by kernel_rfl) (by kernel_rfl) (by kernel_rfl) (by kernel_rfl)
/-! 70: rowlock/lockword.Next -/
def b70 : AC :=
  (.seq (.reg [⟨(some 2), (.op (.mv (.k (.int .u64 0)))), none⟩, ⟨(some 3), (.op (.mv (.k (.int .i64 0)))), none⟩])
  (.seq (.seq (.reg [⟨(some 4), (.op (.mv (.t 0))), none⟩, ⟨(some 5), (.op (.bin .gtr (.t 4) (.k (.int .u64 1099511627776)))), none⟩])
  (.cond (.t 5) (.seq (.reg [⟨(some 2), (.op (.mv (.k (.int .u64 0)))), none⟩, ⟨(some 3), (.op (.mv (.k (.int .i64 2)))), none⟩])
  .ret)
  .skip))
  (.seq (.seq (.reg [⟨(some 6), (.op (.mv (.t 0))), none⟩, ⟨(some 7), (.op (.bin .eql (.t 6) (.k (.int .u64 1099511627776)))), none⟩])
  (.cond (.t 7) (.seq (.reg [⟨(some 2), (.op (.mv (.k (.int .u64 0)))), none⟩, ⟨(some 3), (.op (.mv (.k (.int .i64 4)))), none⟩])
  .ret)
  .skip))
  (.seq (.reg [⟨(some 8), (.op (.mv (.t 0))), none⟩, ⟨(some 9), (.op (.bin .add (.t 8) (.k (.int .u64 1)))), none⟩, ⟨(some 2), (.op (.mv (.t 9))), none⟩, ⟨(some 3), (.op (.mv (.k (.int .i64 0)))), none⟩])
  .ret))))
def a70 : AF := ⟨10, [(.t 2), (.t 3)], .code b70, none⟩
theorem ok70 : AFOk Try.prog ext 70 a70 := .of Try.func70 (by kernel_rfl) (by kernel_rfl) (by kernel_rfl) (by kernel_rfl)
/-! 71: rowlock/lockword.flags -/
def b71 : AC :=
  (.seq (.reg [⟨(some 2), (.op (.alloc 90 [(.bool false), (.bool false), (.bool false), (.bool false), (.bool false)])), none⟩])
  (.seq (.reg [⟨(some 3), (.op (.alloc 90 [(.bool false), (.bool false), (.bool false), (.bool false), (.bool false)])), none⟩])
  (.seq (.seq (.reg [⟨(some 5), (.op (.mv (.k (.int .i64 0)))), none⟩])
  (.block 0 (.loop (.seq (.reg [⟨(some 6), (.op (.bin .lss (.t 5) (.k (.int .i64 5)))), none⟩])
   (.seq (.cond (.t 6) .skip
   (.exit 0))
   (.seq (.block 1 (.seq (.reg [⟨(some 7), (.op (.mv (.t 5))), none⟩, ⟨(some 4), (.op (.mv (.t 7))), none⟩])
   (.reg [⟨(some 8), (.op (.mv (.t 4))), none⟩, ⟨(some 9), (.op (.mv (.t 0))), none⟩, ⟨(some 10), (.op (.mv (.t 4))), none⟩, ⟨(some 11), (.op (.bin .shr (.t 9) (.t 10))), none⟩, ⟨(some 12), (.op (.bin .and (.t 11) (.k (.int .u64 1)))), none⟩, ⟨(some 13), (.op (.bin .eql (.t 12) (.k (.int .u64 1)))), none⟩, ⟨(some 14), (.op (.iaddrA 5 1 (.t 3) (.t 8))), none⟩, ⟨none, (.op (.store 1 (.t 14) (.t 13))), none⟩])))
   (.reg [⟨(some 15), (.op (.bin .add (.t 5) (.k (.int .i64 1)))), none⟩, ⟨(some 5), (.op (.mv (.t 15))), none⟩])))))))
  (.seq (.reg [⟨(some 16), (.op (.loadN 5 (.t 3))), none⟩, ⟨none, (.op (.store 5 (.t 2) (.t 16))), none⟩])
  .ret))))
def a71 : AF := ⟨17, [(.c 2 true 5)], .code b71, none⟩
theorem ok71 : AFOk Try.prog ext 71 a71 := .of Try.func71 (by kernel_rfl) (by kernel_rfl) (by kernel_rfl) (by kernel_rfl)
/-! 72: (rowlock/lockword.parts).right -/
def b72 : AC :=
  (.seq (.reg [⟨(some 1), (.op (.box 79 (.t 0))), none⟩, ⟨(some 2), (.op (.mv (.k (.bool false)))), none⟩])
  (.seq (.reg [⟨(some 3), (.op (.faddr 1 (.t 1))), none⟩, ⟨(some 4), (.op (.load (.t 3))), none⟩, ⟨(some 5), (.op (.bin .leq (.t 4) (.k (.int .u64 1099511627776)))), none⟩, ⟨(some 6), (.op (.mv (.t 5))), none⟩, ⟨(some 7), (.op (.faddr 0 (.t 1))), (some (6, true))⟩, ⟨(some 8), (.op (.load (.t 7))), (some (6, true))⟩, ⟨(some 9), (.op (.bin .eql (.t 8) (.k (.int .i64 (-1))))), (some (6, true))⟩, ⟨(some 10), (.op (.mv (.t 9))), (some (6, true))⟩, ⟨(some 11), (.op (.faddr 0 (.t 1))), (some (10, false))⟩, ⟨(some 12), (.op (.load (.t 11))), (some (10, false))⟩, ⟨(some 13), (.call (.f 73) [(.t 12)]), (some (10, false))⟩, ⟨(some 14), (.op (.pick (.t 10) (.k (.bool true)) (.t 13))), (some (6, true))⟩, ⟨(some 15), (.op (.pick (.t 6) (.t 14) (.k (.bool false)))), none⟩, ⟨(some 2), (.op (.mv (.t 15))), none⟩])
  .ret))
def a72 : AF := ⟨16, [(.t 2)], .code b72, none⟩
theorem ok72 : AFOk Try.prog ext 72 a72 := .of Try.func72 (by kernel_rfl) (by kernel_rfl) (by kernel_rfl) (by kernel_rfl)
/-! 73: rowlock/lockword.may -/
def b73 : AC :=
  (.seq (.reg [⟨(some 2), (.op (.mv (.k (.bool false)))), none⟩])
  (.seq (.reg [⟨(some 3), (.op (.mv (.t 0))), none⟩, ⟨(some 4), (.op (.bin .geq (.t 3) (.k (.int .i64 0)))), none⟩, ⟨(some 5), (.op (.mv (.t 4))), none⟩, ⟨(some 6), (.op (.mv (.t 0))), (some (5, true))⟩, ⟨(some 7), (.op (.bin .lss (.t 6) (.k (.int .i64 4)))), (some (5, true))⟩, ⟨(some 8), (.op (.pick (.t 5) (.t 7) (.k (.bool false)))), none⟩, ⟨(some 2), (.op (.mv (.t 8))), none⟩])
  .ret))
def a73 : AF := ⟨9, [(.t 2)], .code b73, none⟩
theorem ok73 : AFOk Try.prog ext 73 a73 := .of Try.func73 (by kernel_rfl) (by kernel_rfl) (by kernel_rfl) (by kernel_rfl)
/-! 74: (rowlock/lockword.parts).word -/
def b74 : AC :=
  (.seq (.reg [⟨(some 1), (.op (.box 79 (.t 0))), none⟩, ⟨(some 2), (.op (.mv (.k (.int .u64 0)))), none⟩])
  (.seq (.reg [⟨(some 4), (.op (.faddr 1 (.t 1))), none⟩, ⟨(some 5), (.op (.load (.t 4))), none⟩, ⟨(some 6), (.op (.bin .shl (.t 5) (.k (.int .u64 5)))), none⟩, ⟨(some 3), (.op (.mv (.t 6))), none⟩])
  (.seq (.seq (.reg [⟨(some 7), (.op (.faddr 0 (.t 1))), none⟩, ⟨(some 8), (.op (.load (.t 7))), none⟩, ⟨(some 9), (.op (.bin .neq (.t 8) (.k (.int .i64 (-1))))), none⟩])
  (.cond (.t 9) (.reg [⟨(some 10), (.op (.mv (.t 3))), none⟩, ⟨(some 11), (.op (.faddr 0 (.t 1))), none⟩, ⟨(some 12), (.op (.load (.t 11))), none⟩, ⟨(some 13), (.op (.conv (.int .u64) (.t 12))), none⟩, ⟨(some 14), (.op (.bin .shl (.t 13) (.k (.int .u64 1)))), none⟩, ⟨(some 15), (.op (.bin .or (.t 14) (.k (.int .u64 1)))), none⟩, ⟨(some 16), (.op (.bin .or (.t 10) (.t 15))), none⟩, ⟨(some 3), (.op (.mv (.t 16))), none⟩])
  .skip))
  (.seq (.reg [⟨(some 17), (.op (.mv (.t 3))), none⟩, ⟨(some 2), (.op (.mv (.t 17))), none⟩])
  .ret))))
def a74 : AF := ⟨18, [(.t 2)], .code b74, none⟩
theorem ok74 : AFOk Try.prog ext 74 a74 := .of Try.func74 (by kernel_rfl) (by kernel_rfl) (by kernel_rfl) (by kernel_rfl)
/-! 75: rowlock/rowlockref03.owner -/
def b75 : AC :=
  (.seq (.reg [⟨(some 2), (.op (.mv (.k (.bool false)))), none⟩])
  (.seq (.reg [⟨(some 3), (.op (.mv (.t 0))), none⟩, ⟨(some 4), (.op (.bin .geq (.t 3) (.k (.int .i64 0)))), none⟩, ⟨(some 5), (.op (.mv (.t 4))), none⟩, ⟨(some 6), (.op (.mv (.t 0))), (some (5, true))⟩, ⟨(some 7), (.op (.bin .lss (.t 6) (.k (.int .i64 4)))), (some (5, true))⟩, ⟨(some 8), (.op (.pick (.t 5) (.t 7) (.k (.bool false)))), none⟩, ⟨(some 2), (.op (.mv (.t 8))), none⟩])
  .ret))
def a75 : AF := ⟨9, [(.t 2)], .code b75, none⟩
theorem ok75 : AFOk Try.prog ext 75 a75 := .of Try.func75 (by kernel_rfl) (by kernel_rfl) (by kernel_rfl) (by kernel_rfl)
/-! 76: rowlock/rowlockref03.Held -/
def b76 : AC :=
  (.seq (.reg [⟨(some 4), (.op (.mv (.k (.int .u64 0)))), none⟩, ⟨(some 5), (.op (.mv (.k (.int .i64 0)))), none⟩])
  (.seq (.seq (.reg [⟨(some 6), (.op (.mv (.t 0))), none⟩, ⟨(some 7), (.call (.f 75) [(.t 6)]), none⟩, ⟨(some 8), (.op (.un .not (.t 7))), none⟩, ⟨(some 9), (.op (.mv (.t 8))), none⟩, ⟨(some 10), (.op (.mv (.t 1))), (some (9, false))⟩, ⟨(some 11), (.op (.bin .gtr (.t 10) (.k (.int .u64 1099511627776)))), (some (9, false))⟩, ⟨(some 12), (.op (.pick (.t 9) (.k (.bool true)) (.t 11))), none⟩])
  (.cond (.t 12) (.seq (.reg [⟨(some 4), (.op (.mv (.k (.int .u64 0)))), none⟩, ⟨(some 5), (.op (.mv (.k (.int .i64 2)))), none⟩])
  .ret)
  .skip))
  (.seq (.reg [⟨(some 13), (.op (.mv (.t 1))), none⟩, ⟨(some 14), (.op (.bin .mul (.t 13) (.k (.int .u64 32)))), none⟩, ⟨(some 15), (.op (.mv (.t 0))), none⟩, ⟨(some 16), (.op (.conv (.int .u64) (.t 15))), none⟩, ⟨(some 17), (.op (.bin .mul (.t 16) (.k (.int .u64 2)))), none⟩, ⟨(some 18), (.op (.bin .add (.t 14) (.t 17))), none⟩, ⟨(some 19), (.op (.bin .add (.t 18) (.k (.int .u64 1)))), none⟩, ⟨(some 4), (.op (.mv (.t 19))), none⟩, ⟨(some 5), (.op (.mv (.k (.int .i64 0)))), none⟩])
  .ret)))
def a76 : AF := ⟨20, [(.t 4), (.t 5)], .code b76, none⟩
theorem ok76 : AFOk Try.prog ext 76 a76 := .of Try.func76 (by kernel_rfl) (by kernel_rfl) (by kernel_rfl) (by kernel_rfl)
/-! 77: rowlock/rowlockref03.Free -/
def b77 : AC :=
  (.seq (.reg [⟨(some 2), (.op (.mv (.k (.int .u64 0)))), none⟩, ⟨(some 3), (.op (.mv (.k (.int .i64 0)))), none⟩])
  (.seq (.seq (.reg [⟨(some 4), (.op (.mv (.t 0))), none⟩, ⟨(some 5), (.op (.bin .gtr (.t 4) (.k (.int .u64 1099511627776)))), none⟩])
  (.cond (.t 5) (.seq (.reg [⟨(some 2), (.op (.mv (.k (.int .u64 0)))), none⟩, ⟨(some 3), (.op (.mv (.k (.int .i64 2)))), none⟩])
  .ret)
  .skip))
  (.seq (.reg [⟨(some 6), (.op (.mv (.t 0))), none⟩, ⟨(some 7), (.op (.bin .mul (.t 6) (.k (.int .u64 32)))), none⟩, ⟨(some 2), (.op (.mv (.t 7))), none⟩, ⟨(some 3), (.op (.mv (.k (.int .i64 0)))), none⟩])
  .ret)))
def a77 : AF := ⟨8, [(.t 2), (.t 3)], .code b77, none⟩
theorem ok77 : AFOk Try.prog ext 77 a77 := .of Try.func77 (by kernel_rfl) (by kernel_rfl) (by kernel_rfl) (by kernel_rfl)
/-! 78: slices.insertionSortOrdered[int] -/
def b78 : AC :=
  (.seq (.reg [⟨(some 8), (.op (.mv (.t 1))), none⟩, ⟨(some 9), (.op (.bin .add (.t 8) (.k (.int .i64 1)))), none⟩, ⟨(some 6), (.op (.mv (.t 9))), none⟩])
  (.block 0 (.loop (.seq (.seq (.reg [⟨(some 10), (.op (.mv (.t 6))), none⟩, ⟨(some 11), (.op (.mv (.t 2))), none⟩, ⟨(some 12), (.op (.bin .lss (.t 10) (.t 11))), none⟩])
   (.cond (.t 12) .skip
   (.exit 0)))
   (.seq (.block 1 (.seq (.reg [⟨(some 15), (.op (.mv (.t 6))), none⟩, ⟨(some 7), (.op (.mv (.t 15))), none⟩])
   (.block 2 (.loop (.seq (.seq (.dreg (.quiet ⟨(some 16), (.op (.mv (.t 7))), none⟩ (.quiet ⟨(some 17), (.op (.mv (.t 1))), none⟩ (.quiet ⟨(some 18), (.op (.bin .gtr (.t 16) (.t 17))), none⟩ (.quiet ⟨(some 19), (.op (.mv (.t 18))), none⟩ (.quiet ⟨(some 20), (.op (.mv (.t 0))), (some (19, true))⟩ (.quiet ⟨(some 21), (.op (.mv (.t 7))), (some (19, true))⟩ (.quiet ⟨(some 22), (.op (.iaddrS 1 (.t 20) (.t 21))), (some (19, true))⟩ (.quiet ⟨(some 23), (.op (.load (.t 22))), (some (19, true))⟩ (.quiet ⟨(some 24), (.op (.mv (.t 0))), (some (19, true))⟩ (.quiet ⟨(some 25), (.op (.mv (.t 7))), (some (19, true))⟩ (.quiet ⟨(some 26), (.op (.bin .sub (.t 25) (.k (.int .i64 1)))), (some (19, true))⟩ (.quiet ⟨(some 27), (.op (.iaddrS 1 (.t 24) (.t 26))), (some (19, true))⟩ (.quiet ⟨(some 28), (.op (.load (.t 27))), (some (19, true))⟩ (.loud ⟨(some 29), (.call (.f 84) [(.t 23), (.t 28)]), (some (19, true))⟩ [] (.quiet ⟨(some 30), (.op (.pick (.t 19) (.t 29) (.k (.bool false)))), none⟩ .nil))))))))))))))))
    (.cond (.t 30) .skip
    (.exit 2)))
    (.seq (.block 3 (.dreg (.quiet ⟨(some 33), (.op (.mv (.t 0))), none⟩ (.quiet ⟨(some 34), (.op (.mv (.t 7))), none⟩ (.quiet ⟨(some 35), (.op (.mv (.t 0))), none⟩ (.quiet ⟨(some 36), (.op (.mv (.t 7))), none⟩ (.quiet ⟨(some 37), (.op (.bin .sub (.t 36) (.k (.int .i64 1)))), none⟩ (.quiet ⟨(some 38), (.op (.mv (.t 0))), none⟩ (.quiet ⟨(some 39), (.op (.mv (.t 7))), none⟩ (.quiet ⟨(some 40), (.op (.bin .sub (.t 39) (.k (.int .i64 1)))), none⟩ (.quiet ⟨(some 41), (.op (.iaddrS 1 (.t 38) (.t 40))), none⟩ (.quiet ⟨(some 42), (.op (.load (.t 41))), none⟩ (.quiet ⟨(some 43), (.op (.mv (.t 0))), none⟩ (.quiet ⟨(some 44), (.op (.mv (.t 7))), none⟩ (.quiet ⟨(some 45), (.op (.iaddrS 1 (.t 43) (.t 44))), none⟩ (.quiet ⟨(some 46), (.op (.load (.t 45))), none⟩ (.quiet ⟨(some 47), (.op (.iaddrS 1 (.t 33) (.t 34))), none⟩ (.loud ⟨none, (.op (.store 1 (.t 47) (.t 42))), none⟩ [] (.quiet ⟨(some 48), (.op (.iaddrS 1 (.t 35) (.t 37))), none⟩ (.loud ⟨none, (.op (.store 1 (.t 48) (.t 46))), none⟩ [] .nil))))))))))))))))))))
    (.reg [⟨(some 31), (.op (.mv (.t 7))), none⟩, ⟨(some 32), (.op (.bin .sub (.t 31) (.k (.int .i64 1)))), none⟩, ⟨(some 7), (.op (.mv (.t 32))), none⟩])))))))
   (.reg [⟨(some 13), (.op (.mv (.t 6))), none⟩, ⟨(some 14), (.op (.bin .add (.t 13) (.k (.int .i64 1)))), none⟩, ⟨(some 6), (.op (.mv (.t 14))), none⟩]))))))
def a78 : AF := ⟨49, [], .code b78, none⟩
theorem ok78 : AFOk Try.prog ext 78 a78 := .of Try.func78 (by kernel_rfl) (by kernel_rfl) (by kernel_rfl) (by kernel_rfl)
/-! 79: slices.heapSortOrdered[int] -/
def b79 : AC :=
  (.seq (.reg [⟨(some 11), (.op (.mv (.t 1))), none⟩, ⟨(some 6), (.op (.mv (.t 11))), none⟩])
  (.seq (.reg [⟨(some 7), (.op (.mv (.k (.int .i64 0)))), none⟩])
  (.seq (.reg [⟨(some 12), (.op (.mv (.t 2))), none⟩, ⟨(some 13), (.op (.mv (.t 1))), none⟩, ⟨(some 14), (.op (.bin .sub (.t 12) (.t 13))), none⟩, ⟨(some 8), (.op (.mv (.t 14))), none⟩])
  (.seq (.seq (.reg [⟨(some 15), (.op (.mv (.t 8))), none⟩, ⟨(some 16), (.op (.bin .sub (.t 15) (.k (.int .i64 1)))), none⟩, ⟨(some 17), (.op (.bin .quo (.t 16) (.k (.int .i64 2)))), none⟩, ⟨(some 9), (.op (.mv (.t 17))), none⟩])
  (.block 0 (.loop (.seq (.seq (.reg [⟨(some 18), (.op (.mv (.t 9))), none⟩, ⟨(some 19), (.op (.bin .geq (.t 18) (.k (.int .i64 0)))), none⟩])
   (.cond (.t 19) .skip
   (.exit 0)))
   (.seq (.block 1 (.reg [⟨(some 22), (.op (.mv (.t 0))), none⟩, ⟨(some 23), (.op (.mv (.t 9))), none⟩, ⟨(some 24), (.op (.mv (.t 8))), none⟩, ⟨(some 25), (.op (.mv (.t 6))), none⟩, ⟨(some 26), (.call (.f 89) [(.t 22), (.t 23), (.t 24), (.t 25)]), none⟩]))
   (.reg [⟨(some 20), (.op (.mv (.t 9))), none⟩, ⟨(some 21), (.op (.bin .sub (.t 20) (.k (.int .i64 1)))), none⟩, ⟨(some 9), (.op (.mv (.t 21))), none⟩]))))))
  (.seq (.reg [⟨(some 27), (.op (.mv (.t 8))), none⟩, ⟨(some 28), (.op (.bin .sub (.t 27) (.k (.int .i64 1)))), none⟩, ⟨(some 10), (.op (.mv (.t 28))), none⟩])
  (.block 2 (.loop (.seq (.seq (.reg [⟨(some 29), (.op (.mv (.t 10))), none⟩, ⟨(some 30), (.op (.bin .geq (.t 29) (.k (.int .i64 0)))), none⟩])
   (.cond (.t 30) .skip
   (.exit 2)))
   (.seq (.block 3 (.seq (.dreg (.quiet ⟨(some 33), (.op (.mv (.t 0))), none⟩ (.quiet ⟨(some 34), (.op (.mv (.t 6))), none⟩ (.quiet ⟨(some 35), (.op (.mv (.t 0))), none⟩ (.quiet ⟨(some 36), (.op (.mv (.t 6))), none⟩ (.quiet ⟨(some 37), (.op (.mv (.t 10))), none⟩ (.quiet ⟨(some 38), (.op (.bin .add (.t 36) (.t 37))), none⟩ (.quiet ⟨(some 39), (.op (.mv (.t 0))), none⟩ (.quiet ⟨(some 40), (.op (.mv (.t 6))), none⟩ (.quiet ⟨(some 41), (.op (.mv (.t 10))), none⟩ (.quiet ⟨(some 42), (.op (.bin .add (.t 40) (.t 41))), none⟩ (.quiet ⟨(some 43), (.op (.iaddrS 1 (.t 39) (.t 42))), none⟩ (.quiet ⟨(some 44), (.op (.load (.t 43))), none⟩ (.quiet ⟨(some 45), (.op (.mv (.t 0))), none⟩ (.quiet ⟨(some 46), (.op (.mv (.t 6))), none⟩ (.quiet ⟨(some 47), (.op (.iaddrS 1 (.t 45) (.t 46))), none⟩ (.quiet ⟨(some 48), (.op (.load (.t 47))), none⟩ (.quiet ⟨(some 49), (.op (.iaddrS 1 (.t 33) (.t 34))), none⟩ (.loud ⟨none, (.op (.store 1 (.t 49) (.t 44))), none⟩ [] (.quiet ⟨(some 50), (.op (.iaddrS 1 (.t 35) (.t 38))), none⟩ (.loud ⟨none, (.op (.store 1 (.t 50) (.t 48))), none⟩ [] .nil)))))))))))))))))))))
   (.reg [⟨(some 51), (.op (.mv (.t 0))), none⟩, ⟨(some 52), (.op (.mv (.t 7))), none⟩, ⟨(some 53), (.op (.mv (.t 10))), none⟩, ⟨(some 54), (.op (.mv (.t 6))), none⟩, ⟨(some 55), (.call (.f 89) [(.t 51), (.t 52), (.t 53), (.t 54)]), none⟩])))
   (.reg [⟨(some 31), (.op (.mv (.t 10))), none⟩, ⟨(some 32), (.op (.bin .sub (.t 31) (.k (.int .i64 1)))), none⟩, ⟨(some 10), (.op (.mv (.t 32))), none⟩]))))))))))
def a79 : AF := ⟨56, [], .code b79, none⟩
theorem ok79 : AFOk Try.prog ext 79 a79 := .of Try.func79 (by kernel_rfl) (by kernel_rfl) (by kernel_rfl) (by kernel_rfl)
/-! 80: slices.breakPatternsOrdered[int] -/
def b80 : AC :=
  (.seq (.reg [⟨(some 11), (.op (.mv (.t 2))), none⟩, ⟨(some 12), (.op (.mv (.t 1))), none⟩, ⟨(some 13), (.op (.bin .sub (.t 11) (.t 12))), none⟩, ⟨(some 6), (.op (.mv (.t 13))), none⟩])
  (.seq (.reg [⟨(some 14), (.op (.mv (.t 6))), none⟩, ⟨(some 15), (.op (.bin .geq (.t 14) (.k (.int .i64 8)))), none⟩])
  (.cond (.t 15) (.seq (.reg [⟨(some 16), (.op (.mv (.t 6))), none⟩, ⟨(some 17), (.op (.conv (.int .u64) (.t 16))), none⟩, ⟨(some 7), (.op (.alloc 104 [(.int .u64 0)])), none⟩, ⟨none, (.op (.store 1 (.t 7) (.t 17))), none⟩])
  (.seq (.reg [⟨(some 18), (.op (.mv (.t 6))), none⟩, ⟨(some 19), (.call (.f 90) [(.t 18)]), none⟩, ⟨(some 8), (.op (.mv (.t 19))), none⟩])
  (.seq (.reg [⟨(some 20), (.op (.mv (.t 1))), none⟩, ⟨(some 21), (.op (.mv (.t 6))), none⟩, ⟨(some 22), (.op (.bin .quo (.t 21) (.k (.int .i64 4)))), none⟩, ⟨(some 23), (.op (.bin .mul (.t 22) (.k (.int .i64 2)))), none⟩, ⟨(some 24), (.op (.bin .add (.t 20) (.t 23))), none⟩, ⟨(some 25), (.op (.bin .sub (.t 24) (.k (.int .i64 1)))), none⟩, ⟨(some 9), (.op (.mv (.t 25))), none⟩])
  (.block 0 (.loop (.seq (.seq (.reg [⟨(some 26), (.op (.mv (.t 9))), none⟩, ⟨(some 27), (.op (.mv (.t 1))), none⟩, ⟨(some 28), (.op (.mv (.t 6))), none⟩, ⟨(some 29), (.op (.bin .quo (.t 28) (.k (.int .i64 4)))), none⟩, ⟨(some 30), (.op (.bin .mul (.t 29) (.k (.int .i64 2)))), none⟩, ⟨(some 31), (.op (.bin .add (.t 27) (.t 30))), none⟩, ⟨(some 32), (.op (.bin .add (.t 31) (.k (.int .i64 1)))), none⟩, ⟨(some 33), (.op (.bin .leq (.t 26) (.t 32))), none⟩])
   (.cond (.t 33) .skip
   (.exit 0)))
   (.seq (.block 1 (.seq (.reg [⟨(some 36), (.call (.f 91) [(.t 7)]), none⟩, ⟨(some 37), (.op (.mv (.t 8))), none⟩, ⟨(some 38), (.op (.bin .sub (.t 37) (.k (.int .u64 1)))), none⟩, ⟨(some 39), (.op (.bin .and (.t 36) (.t 38))), none⟩, ⟨(some 40), (.op (.conv (.int .i64) (.t 39))), none⟩, ⟨(some 10), (.op (.mv (.t 40))), none⟩])
   (.seq (.seq (.reg [⟨(some 41), (.op (.mv (.t 10))), none⟩, ⟨(some 42), (.op (.mv (.t 6))), none⟩, ⟨(some 43), (.op (.bin .geq (.t 41) (.t 42))), none⟩])
   (.cond (.t 43) (.reg [⟨(some 44), (.op (.mv (.t 10))), none⟩, ⟨(some 45), (.op (.mv (.t 6))), none⟩, ⟨(some 46), (.op (.bin .sub (.t 44) (.t 45))), none⟩, ⟨(some 10), (.op (.mv (.t 46))), none⟩])
   .skip))
   (.dreg (.quiet ⟨(some 47), (.op (.mv (.t 0))), none⟩ (.quiet ⟨(some 48), (.op (.mv (.t 9))), none⟩ (.quiet ⟨(some 49), (.op (.mv (.t 0))), none⟩ (.quiet ⟨(some 50), (.op (.mv (.t 1))), none⟩ (.quiet ⟨(some 51), (.op (.mv (.t 10))), none⟩ (.quiet ⟨(some 52), (.op (.bin .add (.t 50) (.t 51))), none⟩ (.quiet ⟨(some 53), (.op (.mv (.t 0))), none⟩ (.quiet ⟨(some 54), (.op (.mv (.t 1))), none⟩ (.quiet ⟨(some 55), (.op (.mv (.t 10))), none⟩ (.quiet ⟨(some 56), (.op (.bin .add (.t 54) (.t 55))), none⟩ (.quiet ⟨(some 57), (.op (.iaddrS 1 (.t 53) (.t 56))), none⟩ (.quiet ⟨(some 58), (.op (.load (.t 57))), none⟩ (.quiet ⟨(some 59), (.op (.mv (.t 0))), none⟩ (.quiet ⟨(some 60), (.op (.mv (.t 9))), none⟩ (.quiet ⟨(some 61), (.op (.iaddrS 1 (.t 59) (.t 60))), none⟩ (.quiet ⟨(some 62), (.op (.load (.t 61))), none⟩ (.quiet ⟨(some 63), (.op (.iaddrS 1 (.t 47) (.t 48))), none⟩ (.loud ⟨none, (.op (.store 1 (.t 63) (.t 58))), none⟩ [] (.quiet ⟨(some 64), (.op (.iaddrS 1 (.t 49) (.t 52))), none⟩ (.loud ⟨none, (.op (.store 1 (.t 64) (.t 62))), none⟩ [] .nil))))))))))))))))))))))))
   (.reg [⟨(some 34), (.op (.mv (.t 9))), none⟩, ⟨(some 35), (.op (.bin .add (.t 34) (.k (.int .i64 1)))), none⟩, ⟨(some 9), (.op (.mv (.t 35))), none⟩]))))))))
  .skip)))
def a80 : AF := ⟨65, [], .code b80, none⟩
theorem ok80 : AFOk Try.prog ext 80 a80 := .of Try.func80 (by kernel_rfl) (by kernel_rfl) (by kernel_rfl) (by kernel_rfl)
/-! 81: slices.choosePivotOrdered[int] -/
def b81 : AC :=
  (.seq (.reg [⟨(some 6), (.op (.mv (.k (.int .i64 0)))), none⟩, ⟨(some 7), (.op (.mv (.k (.int .i64 0)))), none⟩])
  (.seq (.reg [⟨(some 13), (.op (.mv (.t 2))), none⟩, ⟨(some 14), (.op (.mv (.t 1))), none⟩, ⟨(some 15), (.op (.bin .sub (.t 13) (.t 14))), none⟩, ⟨(some 8), (.op (.mv (.t 15))), none⟩])
  (.seq (.reg [⟨(some 9), (.op (.alloc 3 [(.int .i64 0)])), none⟩])
  (.seq (.reg [⟨(some 16), (.op (.mv (.t 1))), none⟩, ⟨(some 17), (.op (.mv (.t 8))), none⟩, ⟨(some 18), (.op (.bin .quo (.t 17) (.k (.int .i64 4)))), none⟩, ⟨(some 19), (.op (.bin .mul (.t 18) (.k (.int .i64 1)))), none⟩, ⟨(some 20), (.op (.bin .add (.t 16) (.t 19))), none⟩, ⟨(some 10), (.op (.mv (.t 20))), none⟩])
  (.seq (.reg [⟨(some 21), (.op (.mv (.t 1))), none⟩, ⟨(some 22), (.op (.mv (.t 8))), none⟩, ⟨(some 23), (.op (.bin .quo (.t 22) (.k (.int .i64 4)))), none⟩, ⟨(some 24), (.op (.bin .mul (.t 23) (.k (.int .i64 2)))), none⟩, ⟨(some 25), (.op (.bin .add (.t 21) (.t 24))), none⟩, ⟨(some 11), (.op (.mv (.t 25))), none⟩])
  (.seq (.reg [⟨(some 26), (.op (.mv (.t 1))), none⟩, ⟨(some 27), (.op (.mv (.t 8))), none⟩, ⟨(some 28), (.op (.bin .quo (.t 27) (.k (.int .i64 4)))), none⟩, ⟨(some 29), (.op (.bin .mul (.t 28) (.k (.int .i64 3)))), none⟩, ⟨(some 30), (.op (.bin .add (.t 26) (.t 29))), none⟩, ⟨(some 12), (.op (.mv (.t 30))), none⟩])
  (.seq (.seq (.reg [⟨(some 31), (.op (.mv (.t 8))), none⟩, ⟨(some 32), (.op (.bin .geq (.t 31) (.k (.int .i64 8)))), none⟩])
  (.cond (.t 32) (.seq (.seq (.reg [⟨(some 33), (.op (.mv (.t 8))), none⟩, ⟨(some 34), (.op (.bin .geq (.t 33) (.k (.int .i64 50)))), none⟩])
  (.cond (.t 34) (.seq (.reg [⟨(some 35), (.op (.mv (.t 0))), none⟩, ⟨(some 36), (.op (.mv (.t 10))), none⟩, ⟨(some 37), (.call (.f 92) [(.t 35), (.t 36), (.t 9)]), none⟩, ⟨(some 10), (.op (.mv (.t 37))), none⟩])
  (.seq (.reg [⟨(some 38), (.op (.mv (.t 0))), none⟩, ⟨(some 39), (.op (.mv (.t 11))), none⟩, ⟨(some 40), (.call (.f 92) [(.t 38), (.t 39), (.t 9)]), none⟩, ⟨(some 11), (.op (.mv (.t 40))), none⟩])
  (.reg [⟨(some 41), (.op (.mv (.t 0))), none⟩, ⟨(some 42), (.op (.mv (.t 12))), none⟩, ⟨(some 43), (.call (.f 92) [(.t 41), (.t 42), (.t 9)]), none⟩, ⟨(some 12), (.op (.mv (.t 43))), none⟩])))
  .skip))
  (.reg [⟨(some 44), (.op (.mv (.t 0))), none⟩, ⟨(some 45), (.op (.mv (.t 10))), none⟩, ⟨(some 46), (.op (.mv (.t 11))), none⟩, ⟨(some 47), (.op (.mv (.t 12))), none⟩, ⟨(some 48), (.call (.f 93) [(.t 44), (.t 45), (.t 46), (.t 47), (.t 9)]), none⟩, ⟨(some 11), (.op (.mv (.t 48))), none⟩]))
  .skip))
  (.seq (.reg [⟨(some 49), (.op (.load (.t 9))), none⟩])
  (.block 0 (.seq (.reg [⟨(some 52), (.op (.bin .eql (.t 49) (.k (.int .i64 0)))), none⟩, ⟨(some 51), (.op (.mv (.t 52))), none⟩])
  (.cond (.t 51) (.seq (.reg [⟨(some 53), (.op (.mv (.t 11))), none⟩, ⟨(some 6), (.op (.mv (.t 53))), none⟩, ⟨(some 7), (.op (.mv (.k (.int .i64 1)))), none⟩])
  .ret)
  (.seq (.reg [⟨(some 55), (.op (.bin .eql (.t 49) (.k (.int .i64 12)))), none⟩, ⟨(some 54), (.op (.mv (.t 55))), none⟩])
  (.cond (.t 54) (.seq (.reg [⟨(some 56), (.op (.mv (.t 11))), none⟩, ⟨(some 6), (.op (.mv (.t 56))), none⟩, ⟨(some 7), (.op (.mv (.k (.int .i64 2)))), none⟩])
  .ret)
  (.seq (.reg [⟨(some 50), (.op (.mv (.t 11))), none⟩, ⟨(some 6), (.op (.mv (.t 50))), none⟩, ⟨(some 7), (.op (.mv (.k (.int .i64 0)))), none⟩])
  .ret))))))))))))))
def a81 : AF := ⟨57, [(.t 6), (.t 7)], .code b81, none⟩
theorem ok81 : AFOk Try.prog ext 81 a81 := .of Try.func81 (by kernel_rfl) (by kernel_rfl) (by kernel_rfl) (by kernel_rfl)
/-! 82: slices.reverseRangeOrdered[int] -/
def b82 : AC :=
  (.seq (.reg [⟨(some 8), (.op (.mv (.t 1))), none⟩, ⟨(some 6), (.op (.mv (.t 8))), none⟩])
  (.seq (.reg [⟨(some 9), (.op (.mv (.t 2))), none⟩, ⟨(some 10), (.op (.bin .sub (.t 9) (.k (.int .i64 1)))), none⟩, ⟨(some 7), (.op (.mv (.t 10))), none⟩])
  (.block 0 (.loop (.seq (.seq (.reg [⟨(some 11), (.op (.mv (.t 6))), none⟩, ⟨(some 12), (.op (.mv (.t 7))), none⟩, ⟨(some 13), (.op (.bin .lss (.t 11) (.t 12))), none⟩])
   (.cond (.t 13) .skip
   (.exit 0)))
   (.block 1 (.seq (.dreg (.quiet ⟨(some 14), (.op (.mv (.t 0))), none⟩ (.quiet ⟨(some 15), (.op (.mv (.t 6))), none⟩ (.quiet ⟨(some 16), (.op (.mv (.t 0))), none⟩ (.quiet ⟨(some 17), (.op (.mv (.t 7))), none⟩ (.quiet ⟨(some 18), (.op (.mv (.t 0))), none⟩ (.quiet ⟨(some 19), (.op (.mv (.t 7))), none⟩ (.quiet ⟨(some 20), (.op (.iaddrS 1 (.t 18) (.t 19))), none⟩ (.quiet ⟨(some 21), (.op (.load (.t 20))), none⟩ (.quiet ⟨(some 22), (.op (.mv (.t 0))), none⟩ (.quiet ⟨(some 23), (.op (.mv (.t 6))), none⟩ (.quiet ⟨(some 24), (.op (.iaddrS 1 (.t 22) (.t 23))), none⟩ (.quiet ⟨(some 25), (.op (.load (.t 24))), none⟩ (.quiet ⟨(some 26), (.op (.iaddrS 1 (.t 14) (.t 15))), none⟩ (.loud ⟨none, (.op (.store 1 (.t 26) (.t 21))), none⟩ [] (.quiet ⟨(some 27), (.op (.iaddrS 1 (.t 16) (.t 17))), none⟩ (.loud ⟨none, (.op (.store 1 (.t 27) (.t 25))), none⟩ [] .nil)))))))))))))))))
   (.seq (.reg [⟨(some 28), (.op (.mv (.t 6))), none⟩, ⟨(some 29), (.op (.bin .add (.t 28) (.k (.int .i64 1)))), none⟩, ⟨(some 6), (.op (.mv (.t 29))), none⟩])
   (.reg [⟨(some 30), (.op (.mv (.t 7))), none⟩, ⟨(some 31), (.op (.bin .sub (.t 30) (.k (.int .i64 1)))), none⟩, ⟨(some 7), (.op (.mv (.t 31))), none⟩])))))))))
def a82 : AF := ⟨32, [], .code b82, none⟩
theorem ok82 : AFOk Try.prog ext 82 a82 := .of Try.func82 (by kernel_rfl) (by kernel_rfl) (by kernel_rfl) (by kernel_rfl)
/-! 83: slices.partialInsertionSortOrdered[int] -/
def b83 : AC :=
  (.seq (.reg [⟨(some 6), (.op (.mv (.k (.bool false)))), none⟩])
  (.seq (.reg [⟨(some 11), (.op (.mv (.t 1))), none⟩, ⟨(some 12), (.op (.bin .add (.t 11) (.k (.int .i64 1)))), none⟩, ⟨(some 7), (.op (.mv (.t 12))), none⟩])
  (.seq (.seq (.reg [⟨(some 8), (.op (.mv (.k (.int .i64 0)))), none⟩])
  (.block 0 (.loop (.seq (.seq (.reg [⟨(some 13), (.op (.mv (.t 8))), none⟩, ⟨(some 14), (.op (.bin .lss (.t 13) (.k (.int .i64 5)))), none⟩])
   (.cond (.t 14) .skip
   (.exit 0)))
   (.seq (.block 1 (.seq (.block 2 (.loop (.seq (.seq (.dreg (.quiet ⟨(some 17), (.op (.mv (.t 7))), none⟩ (.quiet ⟨(some 18), (.op (.mv (.t 2))), none⟩ (.quiet ⟨(some 19), (.op (.bin .lss (.t 17) (.t 18))), none⟩ (.quiet ⟨(some 20), (.op (.mv (.t 19))), none⟩ (.quiet ⟨(some 21), (.op (.mv (.t 0))), (some (20, true))⟩ (.quiet ⟨(some 22), (.op (.mv (.t 7))), (some (20, true))⟩ (.quiet ⟨(some 23), (.op (.iaddrS 1 (.t 21) (.t 22))), (some (20, true))⟩ (.quiet ⟨(some 24), (.op (.load (.t 23))), (some (20, true))⟩ (.quiet ⟨(some 25), (.op (.mv (.t 0))), (some (20, true))⟩ (.quiet ⟨(some 26), (.op (.mv (.t 7))), (some (20, true))⟩ (.quiet ⟨(some 27), (.op (.bin .sub (.t 26) (.k (.int .i64 1)))), (some (20, true))⟩ (.quiet ⟨(some 28), (.op (.iaddrS 1 (.t 25) (.t 27))), (some (20, true))⟩ (.quiet ⟨(some 29), (.op (.load (.t 28))), (some (20, true))⟩ (.loud ⟨(some 30), (.call (.f 84) [(.t 24), (.t 29)]), (some (20, true))⟩ [] (.quiet ⟨(some 31), (.op (.un .not (.t 30))), (some (20, true))⟩ (.quiet ⟨(some 32), (.op (.pick (.t 20) (.t 31) (.k (.bool false)))), none⟩ .nil)))))))))))))))))
    (.cond (.t 32) .skip
    (.exit 2)))
    (.block 3 (.reg [⟨(some 33), (.op (.mv (.t 7))), none⟩, ⟨(some 34), (.op (.bin .add (.t 33) (.k (.int .i64 1)))), none⟩, ⟨(some 7), (.op (.mv (.t 34))), none⟩])))))
   (.seq (.seq (.reg [⟨(some 35), (.op (.mv (.t 7))), none⟩, ⟨(some 36), (.op (.mv (.t 2))), none⟩, ⟨(some 37), (.op (.bin .eql (.t 35) (.t 36))), none⟩])
   (.cond (.t 37) (.seq (.reg [⟨(some 6), (.op (.mv (.k (.bool true)))), none⟩])
   .ret)
   .skip))
   (.seq (.seq (.reg [⟨(some 38), (.op (.mv (.t 2))), none⟩, ⟨(some 39), (.op (.mv (.t 1))), none⟩, ⟨(some 40), (.op (.bin .sub (.t 38) (.t 39))), none⟩, ⟨(some 41), (.op (.bin .lss (.t 40) (.k (.int .i64 50)))), none⟩])
   (.cond (.t 41) (.seq (.reg [⟨(some 6), (.op (.mv (.k (.bool false)))), none⟩])
   .ret)
   .skip))
   (.seq (.dreg (.quiet ⟨(some 42), (.op (.mv (.t 0))), none⟩ (.quiet ⟨(some 43), (.op (.mv (.t 7))), none⟩ (.quiet ⟨(some 44), (.op (.mv (.t 0))), none⟩ (.quiet ⟨(some 45), (.op (.mv (.t 7))), none⟩ (.quiet ⟨(some 46), (.op (.bin .sub (.t 45) (.k (.int .i64 1)))), none⟩ (.quiet ⟨(some 47), (.op (.mv (.t 0))), none⟩ (.quiet ⟨(some 48), (.op (.mv (.t 7))), none⟩ (.quiet ⟨(some 49), (.op (.bin .sub (.t 48) (.k (.int .i64 1)))), none⟩ (.quiet ⟨(some 50), (.op (.iaddrS 1 (.t 47) (.t 49))), none⟩ (.quiet ⟨(some 51), (.op (.load (.t 50))), none⟩ (.quiet ⟨(some 52), (.op (.mv (.t 0))), none⟩ (.quiet ⟨(some 53), (.op (.mv (.t 7))), none⟩ (.quiet ⟨(some 54), (.op (.iaddrS 1 (.t 52) (.t 53))), none⟩ (.quiet ⟨(some 55), (.op (.load (.t 54))), none⟩ (.quiet ⟨(some 56), (.op (.iaddrS 1 (.t 42) (.t 43))), none⟩ (.loud ⟨none, (.op (.store 1 (.t 56) (.t 51))), none⟩ [] (.quiet ⟨(some 57), (.op (.iaddrS 1 (.t 44) (.t 46))), none⟩ (.loud ⟨none, (.op (.store 1 (.t 57) (.t 55))), none⟩ [] .nil)))))))))))))))))))
   (.seq (.seq (.reg [⟨(some 58), (.op (.mv (.t 7))), none⟩, ⟨(some 59), (.op (.mv (.t 1))), none⟩, ⟨(some 60), (.op (.bin .sub (.t 58) (.t 59))), none⟩, ⟨(some 61), (.op (.bin .geq (.t 60) (.k (.int .i64 2)))), none⟩])
   (.cond (.t 61) (.seq (.reg [⟨(some 62), (.op (.mv (.t 7))), none⟩, ⟨(some 63), (.op (.bin .sub (.t 62) (.k (.int .i64 1)))), none⟩, ⟨(some 9), (.op (.mv (.t 63))), none⟩])
   (.block 4 (.loop (.seq (.seq (.reg [⟨(some 64), (.op (.mv (.t 9))), none⟩, ⟨(some 65), (.op (.bin .geq (.t 64) (.k (.int .i64 1)))), none⟩])
    (.cond (.t 65) .skip
    (.exit 4)))
    (.seq (.block 5 (.seq (.seq (.dreg (.quiet ⟨(some 68), (.op (.mv (.t 0))), none⟩ (.quiet ⟨(some 69), (.op (.mv (.t 9))), none⟩ (.quiet ⟨(some 70), (.op (.iaddrS 1 (.t 68) (.t 69))), none⟩ (.quiet ⟨(some 71), (.op (.load (.t 70))), none⟩ (.quiet ⟨(some 72), (.op (.mv (.t 0))), none⟩ (.quiet ⟨(some 73), (.op (.mv (.t 9))), none⟩ (.quiet ⟨(some 74), (.op (.bin .sub (.t 73) (.k (.int .i64 1)))), none⟩ (.quiet ⟨(some 75), (.op (.iaddrS 1 (.t 72) (.t 74))), none⟩ (.quiet ⟨(some 76), (.op (.load (.t 75))), none⟩ (.loud ⟨(some 77), (.call (.f 84) [(.t 71), (.t 76)]), none⟩ [] (.quiet ⟨(some 78), (.op (.un .not (.t 77))), none⟩ .nil))))))))))))
    (.cond (.t 78) (.exit 4)
    .skip))
    (.dreg (.quiet ⟨(some 79), (.op (.mv (.t 0))), none⟩ (.quiet ⟨(some 80), (.op (.mv (.t 9))), none⟩ (.quiet ⟨(some 81), (.op (.mv (.t 0))), none⟩ (.quiet ⟨(some 82), (.op (.mv (.t 9))), none⟩ (.quiet ⟨(some 83), (.op (.bin .sub (.t 82) (.k (.int .i64 1)))), none⟩ (.quiet ⟨(some 84), (.op (.mv (.t 0))), none⟩ (.quiet ⟨(some 85), (.op (.mv (.t 9))), none⟩ (.quiet ⟨(some 86), (.op (.bin .sub (.t 85) (.k (.int .i64 1)))), none⟩ (.quiet ⟨(some 87), (.op (.iaddrS 1 (.t 84) (.t 86))), none⟩ (.quiet ⟨(some 88), (.op (.load (.t 87))), none⟩ (.quiet ⟨(some 89), (.op (.mv (.t 0))), none⟩ (.quiet ⟨(some 90), (.op (.mv (.t 9))), none⟩ (.quiet ⟨(some 91), (.op (.iaddrS 1 (.t 89) (.t 90))), none⟩ (.quiet ⟨(some 92), (.op (.load (.t 91))), none⟩ (.quiet ⟨(some 93), (.op (.iaddrS 1 (.t 79) (.t 80))), none⟩ (.loud ⟨none, (.op (.store 1 (.t 93) (.t 88))), none⟩ [] (.quiet ⟨(some 94), (.op (.iaddrS 1 (.t 81) (.t 83))), none⟩ (.loud ⟨none, (.op (.store 1 (.t 94) (.t 92))), none⟩ [] .nil)))))))))))))))))))))
    (.reg [⟨(some 66), (.op (.mv (.t 9))), none⟩, ⟨(some 67), (.op (.bin .sub (.t 66) (.k (.int .i64 1)))), none⟩, ⟨(some 9), (.op (.mv (.t 67))), none⟩]))))))
   .skip))
   (.seq (.reg [⟨(some 95), (.op (.mv (.t 2))), none⟩, ⟨(some 96), (.op (.mv (.t 7))), none⟩, ⟨(some 97), (.op (.bin .sub (.t 95) (.t 96))), none⟩, ⟨(some 98), (.op (.bin .geq (.t 97) (.k (.int .i64 2)))), none⟩])
   (.cond (.t 98) (.seq (.reg [⟨(some 99), (.op (.mv (.t 7))), none⟩, ⟨(some 100), (.op (.bin .add (.t 99) (.k (.int .i64 1)))), none⟩, ⟨(some 10), (.op (.mv (.t 100))), none⟩])
   (.block 6 (.loop (.seq (.seq (.reg [⟨(some 101), (.op (.mv (.t 10))), none⟩, ⟨(some 102), (.op (.mv (.t 2))), none⟩, ⟨(some 103), (.op (.bin .lss (.t 101) (.t 102))), none⟩])
    (.cond (.t 103) .skip
    (.exit 6)))
    (.seq (.block 7 (.seq (.seq (.dreg (.quiet ⟨(some 106), (.op (.mv (.t 0))), none⟩ (.quiet ⟨(some 107), (.op (.mv (.t 10))), none⟩ (.quiet ⟨(some 108), (.op (.iaddrS 1 (.t 106) (.t 107))), none⟩ (.quiet ⟨(some 109), (.op (.load (.t 108))), none⟩ (.quiet ⟨(some 110), (.op (.mv (.t 0))), none⟩ (.quiet ⟨(some 111), (.op (.mv (.t 10))), none⟩ (.quiet ⟨(some 112), (.op (.bin .sub (.t 111) (.k (.int .i64 1)))), none⟩ (.quiet ⟨(some 113), (.op (.iaddrS 1 (.t 110) (.t 112))), none⟩ (.quiet ⟨(some 114), (.op (.load (.t 113))), none⟩ (.loud ⟨(some 115), (.call (.f 84) [(.t 109), (.t 114)]), none⟩ [] (.quiet ⟨(some 116), (.op (.un .not (.t 115))), none⟩ .nil))))))))))))
    (.cond (.t 116) (.exit 6)
    .skip))
    (.dreg (.quiet ⟨(some 117), (.op (.mv (.t 0))), none⟩ (.quiet ⟨(some 118), (.op (.mv (.t 10))), none⟩ (.quiet ⟨(some 119), (.op (.mv (.t 0))), none⟩ (.quiet ⟨(some 120), (.op (.mv (.t 10))), none⟩ (.quiet ⟨(some 121), (.op (.bin .sub (.t 120) (.k (.int .i64 1)))), none⟩ (.quiet ⟨(some 122), (.op (.mv (.t 0))), none⟩ (.quiet ⟨(some 123), (.op (.mv (.t 10))), none⟩ (.quiet ⟨(some 124), (.op (.bin .sub (.t 123) (.k (.int .i64 1)))), none⟩ (.quiet ⟨(some 125), (.op (.iaddrS 1 (.t 122) (.t 124))), none⟩ (.quiet ⟨(some 126), (.op (.load (.t 125))), none⟩ (.quiet ⟨(some 127), (.op (.mv (.t 0))), none⟩ (.quiet ⟨(some 128), (.op (.mv (.t 10))), none⟩ (.quiet ⟨(some 129), (.op (.iaddrS 1 (.t 127) (.t 128))), none⟩ (.quiet ⟨(some 130), (.op (.load (.t 129))), none⟩ (.quiet ⟨(some 131), (.op (.iaddrS 1 (.t 117) (.t 118))), none⟩ (.loud ⟨none, (.op (.store 1 (.t 131) (.t 126))), none⟩ [] (.quiet ⟨(some 132), (.op (.iaddrS 1 (.t 119) (.t 121))), none⟩ (.loud ⟨none, (.op (.store 1 (.t 132) (.t 130))), none⟩ [] .nil)))))))))))))))))))))
    (.reg [⟨(some 104), (.op (.mv (.t 10))), none⟩, ⟨(some 105), (.op (.bin .add (.t 104) (.k (.int .i64 1)))), none⟩, ⟨(some 10), (.op (.mv (.t 105))), none⟩]))))))
   .skip))))))))
   (.reg [⟨(some 15), (.op (.mv (.t 8))), none⟩, ⟨(some 16), (.op (.bin .add (.t 15) (.k (.int .i64 1)))), none⟩, ⟨(some 8), (.op (.mv (.t 16))), none⟩]))))))
  (.seq (.reg [⟨(some 6), (.op (.mv (.k (.bool false)))), none⟩])
  .ret))))
def a83 : AF := ⟨133, [(.t 6)], .code b83, none⟩
theorem ok83 : AFOk Try.prog ext 83 a83 := .of Try.func83 (by kernel_rfl) (by kernel_rfl) (by kernel_rfl) (by kernel_rfl)
/-! 84: cmp.Less[int] -/
def b84 : AC :=
  (.seq (.reg [⟨(some 4), (.op (.mv (.k (.bool false)))), none⟩])
  (.seq (.reg [⟨(some 5), (.op (.mv (.t 0))), none⟩, ⟨(some 6), (.call (.f 94) [(.t 5)]), none⟩, ⟨(some 7), (.op (.mv (.t 6))), none⟩, ⟨(some 8), (.op (.mv (.t 1))), (some (7, true))⟩, ⟨(some 9), (.call (.f 94) [(.t 8)]), (some (7, true))⟩, ⟨(some 10), (.op (.un .not (.t 9))), (some (7, true))⟩, ⟨(some 11), (.op (.pick (.t 7) (.t 10) (.k (.bool false)))), none⟩, ⟨(some 12), (.op (.mv (.t 11))), none⟩, ⟨(some 13), (.op (.mv (.t 0))), (some (12, false))⟩, ⟨(some 14), (.op (.mv (.t 1))), (some (12, false))⟩, ⟨(some 15), (.op (.bin .lss (.t 13) (.t 14))), (some (12, false))⟩, ⟨(some 16), (.op (.pick (.t 12) (.k (.bool true)) (.t 15))), none⟩, ⟨(some 4), (.op (.mv (.t 16))), none⟩])
  .ret))
def a84 : AF := ⟨17, [(.t 4)], .code b84, none⟩
theorem ok84 : AFOk Try.prog ext 84 a84 := .of Try.func84 (by kernel_rfl) (by kernel_rfl) (by kernel_rfl) (by kernel_rfl)
/-! 85: slices.partitionEqualOrdered[int] -/
def b85 : AC :=
  (.seq (.reg [⟨(some 8), (.op (.mv (.k (.int .i64 0)))), none⟩])
  (.seq (.dreg (.quiet ⟨(some 11), (.op (.mv (.t 0))), none⟩ (.quiet ⟨(some 12), (.op (.mv (.t 1))), none⟩ (.quiet ⟨(some 13), (.op (.mv (.t 0))), none⟩ (.quiet ⟨(some 14), (.op (.mv (.t 3))), none⟩ (.quiet ⟨(some 15), (.op (.mv (.t 0))), none⟩ (.quiet ⟨(some 16), (.op (.mv (.t 3))), none⟩ (.quiet ⟨(some 17), (.op (.iaddrS 1 (.t 15) (.t 16))), none⟩ (.quiet ⟨(some 18), (.op (.load (.t 17))), none⟩ (.quiet ⟨(some 19), (.op (.mv (.t 0))), none⟩ (.quiet ⟨(some 20), (.op (.mv (.t 1))), none⟩ (.quiet ⟨(some 21), (.op (.iaddrS 1 (.t 19) (.t 20))), none⟩ (.quiet ⟨(some 22), (.op (.load (.t 21))), none⟩ (.quiet ⟨(some 23), (.op (.iaddrS 1 (.t 11) (.t 12))), none⟩ (.loud ⟨none, (.op (.store 1 (.t 23) (.t 18))), none⟩ [] (.quiet ⟨(some 24), (.op (.iaddrS 1 (.t 13) (.t 14))), none⟩ (.loud ⟨none, (.op (.store 1 (.t 24) (.t 22))), none⟩ [] .nil)))))))))))))))))
  (.seq (.reg [⟨(some 25), (.op (.mv (.t 1))), none⟩, ⟨(some 26), (.op (.bin .add (.t 25) (.k (.int .i64 1)))), none⟩, ⟨(some 27), (.op (.mv (.t 2))), none⟩, ⟨(some 28), (.op (.bin .sub (.t 27) (.k (.int .i64 1)))), none⟩, ⟨(some 9), (.op (.mv (.t 26))), none⟩, ⟨(some 10), (.op (.mv (.t 28))), none⟩])
  (.seq (.block 0 (.loop (.block 1 (.seq (.block 2 (.loop (.seq (.seq (.dreg (.quiet ⟨(some 29), (.op (.mv (.t 9))), none⟩ (.quiet ⟨(some 30), (.op (.mv (.t 10))), none⟩ (.quiet ⟨(some 31), (.op (.bin .leq (.t 29) (.t 30))), none⟩ (.quiet ⟨(some 32), (.op (.mv (.t 31))), none⟩ (.quiet ⟨(some 33), (.op (.mv (.t 0))), (some (32, true))⟩ (.quiet ⟨(some 34), (.op (.mv (.t 1))), (some (32, true))⟩ (.quiet ⟨(some 35), (.op (.iaddrS 1 (.t 33) (.t 34))), (some (32, true))⟩ (.quiet ⟨(some 36), (.op (.load (.t 35))), (some (32, true))⟩ (.quiet ⟨(some 37), (.op (.mv (.t 0))), (some (32, true))⟩ (.quiet ⟨(some 38), (.op (.mv (.t 9))), (some (32, true))⟩ (.quiet ⟨(some 39), (.op (.iaddrS 1 (.t 37) (.t 38))), (some (32, true))⟩ (.quiet ⟨(some 40), (.op (.load (.t 39))), (some (32, true))⟩ (.loud ⟨(some 41), (.call (.f 84) [(.t 36), (.t 40)]), (some (32, true))⟩ [] (.quiet ⟨(some 42), (.op (.un .not (.t 41))), (some (32, true))⟩ (.quiet ⟨(some 43), (.op (.pick (.t 32) (.t 42) (.k (.bool false)))), none⟩ .nil))))))))))))))))
    (.cond (.t 43) .skip
    (.exit 2)))
    (.block 3 (.reg [⟨(some 44), (.op (.mv (.t 9))), none⟩, ⟨(some 45), (.op (.bin .add (.t 44) (.k (.int .i64 1)))), none⟩, ⟨(some 9), (.op (.mv (.t 45))), none⟩])))))
   (.seq (.block 4 (.loop (.seq (.seq (.dreg (.quiet ⟨(some 46), (.op (.mv (.t 9))), none⟩ (.quiet ⟨(some 47), (.op (.mv (.t 10))), none⟩ (.quiet ⟨(some 48), (.op (.bin .leq (.t 46) (.t 47))), none⟩ (.quiet ⟨(some 49), (.op (.mv (.t 48))), none⟩ (.quiet ⟨(some 50), (.op (.mv (.t 0))), (some (49, true))⟩ (.quiet ⟨(some 51), (.op (.mv (.t 1))), (some (49, true))⟩ (.quiet ⟨(some 52), (.op (.iaddrS 1 (.t 50) (.t 51))), (some (49, true))⟩ (.quiet ⟨(some 53), (.op (.load (.t 52))), (some (49, true))⟩ (.quiet ⟨(some 54), (.op (.mv (.t 0))), (some (49, true))⟩ (.quiet ⟨(some 55), (.op (.mv (.t 10))), (some (49, true))⟩ (.quiet ⟨(some 56), (.op (.iaddrS 1 (.t 54) (.t 55))), (some (49, true))⟩ (.quiet ⟨(some 57), (.op (.load (.t 56))), (some (49, true))⟩ (.loud ⟨(some 58), (.call (.f 84) [(.t 53), (.t 57)]), (some (49, true))⟩ [] (.quiet ⟨(some 59), (.op (.pick (.t 49) (.t 58) (.k (.bool false)))), none⟩ .nil)))))))))))))))
    (.cond (.t 59) .skip
    (.exit 4)))
    (.block 5 (.reg [⟨(some 60), (.op (.mv (.t 10))), none⟩, ⟨(some 61), (.op (.bin .sub (.t 60) (.k (.int .i64 1)))), none⟩, ⟨(some 10), (.op (.mv (.t 61))), none⟩])))))
   (.seq (.seq (.reg [⟨(some 62), (.op (.mv (.t 9))), none⟩, ⟨(some 63), (.op (.mv (.t 10))), none⟩, ⟨(some 64), (.op (.bin .gtr (.t 62) (.t 63))), none⟩])
   (.cond (.t 64) (.exit 0)
   .skip))
   (.seq (.dreg (.quiet ⟨(some 65), (.op (.mv (.t 0))), none⟩ (.quiet ⟨(some 66), (.op (.mv (.t 9))), none⟩ (.quiet ⟨(some 67), (.op (.mv (.t 0))), none⟩ (.quiet ⟨(some 68), (.op (.mv (.t 10))), none⟩ (.quiet ⟨(some 69), (.op (.mv (.t 0))), none⟩ (.quiet ⟨(some 70), (.op (.mv (.t 10))), none⟩ (.quiet ⟨(some 71), (.op (.iaddrS 1 (.t 69) (.t 70))), none⟩ (.quiet ⟨(some 72), (.op (.load (.t 71))), none⟩ (.quiet ⟨(some 73), (.op (.mv (.t 0))), none⟩ (.quiet ⟨(some 74), (.op (.mv (.t 9))), none⟩ (.quiet ⟨(some 75), (.op (.iaddrS 1 (.t 73) (.t 74))), none⟩ (.quiet ⟨(some 76), (.op (.load (.t 75))), none⟩ (.quiet ⟨(some 77), (.op (.iaddrS 1 (.t 65) (.t 66))), none⟩ (.loud ⟨none, (.op (.store 1 (.t 77) (.t 72))), none⟩ [] (.quiet ⟨(some 78), (.op (.iaddrS 1 (.t 67) (.t 68))), none⟩ (.loud ⟨none, (.op (.store 1 (.t 78) (.t 76))), none⟩ [] .nil)))))))))))))))))
   (.seq (.reg [⟨(some 79), (.op (.mv (.t 9))), none⟩, ⟨(some 80), (.op (.bin .add (.t 79) (.k (.int .i64 1)))), none⟩, ⟨(some 9), (.op (.mv (.t 80))), none⟩])
   (.reg [⟨(some 81), (.op (.mv (.t 10))), none⟩, ⟨(some 82), (.op (.bin .sub (.t 81) (.k (.int .i64 1)))), none⟩, ⟨(some 10), (.op (.mv (.t 82))), none⟩])))))))))
  (.seq (.reg [⟨(some 83), (.op (.mv (.t 9))), none⟩, ⟨(some 8), (.op (.mv (.t 83))), none⟩])
  .ret)))))
def a85 : AF := ⟨84, [(.t 8)], .code b85, none⟩
theorem ok85 : AFOk Try.prog ext 85 a85 := .of Try.func85 (by kernel_rfl) (by kernel_rfl) (by kernel_rfl) (by kernel_rfl)
/-! 86: slices.partitionOrdered[int] -/
def b86 : AC :=
  (.seq (.reg [⟨(some 8), (.op (.mv (.k (.int .i64 0)))), none⟩, ⟨(some 9), (.op (.mv (.k (.bool false)))), none⟩])
  (.seq (.dreg (.quiet ⟨(some 12), (.op (.mv (.t 0))), none⟩ (.quiet ⟨(some 13), (.op (.mv (.t 1))), none⟩ (.quiet ⟨(some 14), (.op (.mv (.t 0))), none⟩ (.quiet ⟨(some 15), (.op (.mv (.t 3))), none⟩ (.quiet ⟨(some 16), (.op (.mv (.t 0))), none⟩ (.quiet ⟨(some 17), (.op (.mv (.t 3))), none⟩ (.quiet ⟨(some 18), (.op (.iaddrS 1 (.t 16) (.t 17))), none⟩ (.quiet ⟨(some 19), (.op (.load (.t 18))), none⟩ (.quiet ⟨(some 20), (.op (.mv (.t 0))), none⟩ (.quiet ⟨(some 21), (.op (.mv (.t 1))), none⟩ (.quiet ⟨(some 22), (.op (.iaddrS 1 (.t 20) (.t 21))), none⟩ (.quiet ⟨(some 23), (.op (.load (.t 22))), none⟩ (.quiet ⟨(some 24), (.op (.iaddrS 1 (.t 12) (.t 13))), none⟩ (.loud ⟨none, (.op (.store 1 (.t 24) (.t 19))), none⟩ [] (.quiet ⟨(some 25), (.op (.iaddrS 1 (.t 14) (.t 15))), none⟩ (.loud ⟨none, (.op (.store 1 (.t 25) (.t 23))), none⟩ [] .nil)))))))))))))))))
  (.seq (.reg [⟨(some 26), (.op (.mv (.t 1))), none⟩, ⟨(some 27), (.op (.bin .add (.t 26) (.k (.int .i64 1)))), none⟩, ⟨(some 28), (.op (.mv (.t 2))), none⟩, ⟨(some 29), (.op (.bin .sub (.t 28) (.k (.int .i64 1)))), none⟩, ⟨(some 10), (.op (.mv (.t 27))), none⟩, ⟨(some 11), (.op (.mv (.t 29))), none⟩])
  (.seq (.block 0 (.loop (.seq (.seq (.dreg (.quiet ⟨(some 30), (.op (.mv (.t 10))), none⟩ (.quiet ⟨(some 31), (.op (.mv (.t 11))), none⟩ (.quiet ⟨(some 32), (.op (.bin .leq (.t 30) (.t 31))), none⟩ (.quiet ⟨(some 33), (.op (.mv (.t 32))), none⟩ (.quiet ⟨(some 34), (.op (.mv (.t 0))), (some (33, true))⟩ (.quiet ⟨(some 35), (.op (.mv (.t 10))), (some (33, true))⟩ (.quiet ⟨(some 36), (.op (.iaddrS 1 (.t 34) (.t 35))), (some (33, true))⟩ (.quiet ⟨(some 37), (.op (.load (.t 36))), (some (33, true))⟩ (.quiet ⟨(some 38), (.op (.mv (.t 0))), (some (33, true))⟩ (.quiet ⟨(some 39), (.op (.mv (.t 1))), (some (33, true))⟩ (.quiet ⟨(some 40), (.op (.iaddrS 1 (.t 38) (.t 39))), (some (33, true))⟩ (.quiet ⟨(some 41), (.op (.load (.t 40))), (some (33, true))⟩ (.loud ⟨(some 42), (.call (.f 84) [(.t 37), (.t 41)]), (some (33, true))⟩ [] (.quiet ⟨(some 43), (.op (.pick (.t 33) (.t 42) (.k (.bool false)))), none⟩ .nil)))))))))))))))
   (.cond (.t 43) .skip
   (.exit 0)))
   (.block 1 (.reg [⟨(some 44), (.op (.mv (.t 10))), none⟩, ⟨(some 45), (.op (.bin .add (.t 44) (.k (.int .i64 1)))), none⟩, ⟨(some 10), (.op (.mv (.t 45))), none⟩])))))
  (.seq (.block 2 (.loop (.seq (.seq (.dreg (.quiet ⟨(some 46), (.op (.mv (.t 10))), none⟩ (.quiet ⟨(some 47), (.op (.mv (.t 11))), none⟩ (.quiet ⟨(some 48), (.op (.bin .leq (.t 46) (.t 47))), none⟩ (.quiet ⟨(some 49), (.op (.mv (.t 48))), none⟩ (.quiet ⟨(some 50), (.op (.mv (.t 0))), (some (49, true))⟩ (.quiet ⟨(some 51), (.op (.mv (.t 11))), (some (49, true))⟩ (.quiet ⟨(some 52), (.op (.iaddrS 1 (.t 50) (.t 51))), (some (49, true))⟩ (.quiet ⟨(some 53), (.op (.load (.t 52))), (some (49, true))⟩ (.quiet ⟨(some 54), (.op (.mv (.t 0))), (some (49, true))⟩ (.quiet ⟨(some 55), (.op (.mv (.t 1))), (some (49, true))⟩ (.quiet ⟨(some 56), (.op (.iaddrS 1 (.t 54) (.t 55))), (some (49, true))⟩ (.quiet ⟨(some 57), (.op (.load (.t 56))), (some (49, true))⟩ (.loud ⟨(some 58), (.call (.f 84) [(.t 53), (.t 57)]), (some (49, true))⟩ [] (.quiet ⟨(some 59), (.op (.un .not (.t 58))), (some (49, true))⟩ (.quiet ⟨(some 60), (.op (.pick (.t 49) (.t 59) (.k (.bool false)))), none⟩ .nil))))))))))))))))
   (.cond (.t 60) .skip
   (.exit 2)))
   (.block 3 (.reg [⟨(some 61), (.op (.mv (.t 11))), none⟩, ⟨(some 62), (.op (.bin .sub (.t 61) (.k (.int .i64 1)))), none⟩, ⟨(some 11), (.op (.mv (.t 62))), none⟩])))))
  (.seq (.seq (.reg [⟨(some 63), (.op (.mv (.t 10))), none⟩, ⟨(some 64), (.op (.mv (.t 11))), none⟩, ⟨(some 65), (.op (.bin .gtr (.t 63) (.t 64))), none⟩])
  (.cond (.t 65) (.seq (.dreg (.quiet ⟨(some 66), (.op (.mv (.t 0))), none⟩ (.quiet ⟨(some 67), (.op (.mv (.t 11))), none⟩ (.quiet ⟨(some 68), (.op (.mv (.t 0))), none⟩ (.quiet ⟨(some 69), (.op (.mv (.t 1))), none⟩ (.quiet ⟨(some 70), (.op (.mv (.t 0))), none⟩ (.quiet ⟨(some 71), (.op (.mv (.t 1))), none⟩ (.quiet ⟨(some 72), (.op (.iaddrS 1 (.t 70) (.t 71))), none⟩ (.quiet ⟨(some 73), (.op (.load (.t 72))), none⟩ (.quiet ⟨(some 74), (.op (.mv (.t 0))), none⟩ (.quiet ⟨(some 75), (.op (.mv (.t 11))), none⟩ (.quiet ⟨(some 76), (.op (.iaddrS 1 (.t 74) (.t 75))), none⟩ (.quiet ⟨(some 77), (.op (.load (.t 76))), none⟩ (.quiet ⟨(some 78), (.op (.iaddrS 1 (.t 66) (.t 67))), none⟩ (.loud ⟨none, (.op (.store 1 (.t 78) (.t 73))), none⟩ [] (.quiet ⟨(some 79), (.op (.iaddrS 1 (.t 68) (.t 69))), none⟩ (.loud ⟨none, (.op (.store 1 (.t 79) (.t 77))), none⟩ [] .nil)))))))))))))))))
  (.seq (.reg [⟨(some 80), (.op (.mv (.t 11))), none⟩, ⟨(some 8), (.op (.mv (.t 80))), none⟩, ⟨(some 9), (.op (.mv (.k (.bool true)))), none⟩])
  .ret))
  .skip))
  (.seq (.dreg (.quiet ⟨(some 81), (.op (.mv (.t 0))), none⟩ (.quiet ⟨(some 82), (.op (.mv (.t 10))), none⟩ (.quiet ⟨(some 83), (.op (.mv (.t 0))), none⟩ (.quiet ⟨(some 84), (.op (.mv (.t 11))), none⟩ (.quiet ⟨(some 85), (.op (.mv (.t 0))), none⟩ (.quiet ⟨(some 86), (.op (.mv (.t 11))), none⟩ (.quiet ⟨(some 87), (.op (.iaddrS 1 (.t 85) (.t 86))), none⟩ (.quiet ⟨(some 88), (.op (.load (.t 87))), none⟩ (.quiet ⟨(some 89), (.op (.mv (.t 0))), none⟩ (.quiet ⟨(some 90), (.op (.mv (.t 10))), none⟩ (.quiet ⟨(some 91), (.op (.iaddrS 1 (.t 89) (.t 90))), none⟩ (.quiet ⟨(some 92), (.op (.load (.t 91))), none⟩ (.quiet ⟨(some 93), (.op (.iaddrS 1 (.t 81) (.t 82))), none⟩ (.loud ⟨none, (.op (.store 1 (.t 93) (.t 88))), none⟩ [] (.quiet ⟨(some 94), (.op (.iaddrS 1 (.t 83) (.t 84))), none⟩ (.loud ⟨none, (.op (.store 1 (.t 94) (.t 92))), none⟩ [] .nil)))))))))))))))))
  (.seq (.reg [⟨(some 95), (.op (.mv (.t 10))), none⟩, ⟨(some 96), (.op (.bin .add (.t 95) (.k (.int .i64 1)))), none⟩, ⟨(some 10), (.op (.mv (.t 96))), none⟩])
  (.seq (.reg [⟨(some 97), (.op (.mv (.t 11))), none⟩, ⟨(some 98), (.op (.bin .sub (.t 97) (.k (.int .i64 1)))), none⟩, ⟨(some 11), (.op (.mv (.t 98))), none⟩])
  (.seq (.block 4 (.loop (.block 5 (.seq (.block 6 (.loop (.seq (.seq (.dreg (.quiet ⟨(some 99), (.op (.mv (.t 10))), none⟩ (.quiet ⟨(some 100), (.op (.mv (.t 11))), none⟩ (.quiet ⟨(some 101), (.op (.bin .leq (.t 99) (.t 100))), none⟩ (.quiet ⟨(some 102), (.op (.mv (.t 101))), none⟩ (.quiet ⟨(some 103), (.op (.mv (.t 0))), (some (102, true))⟩ (.quiet ⟨(some 104), (.op (.mv (.t 10))), (some (102, true))⟩ (.quiet ⟨(some 105), (.op (.iaddrS 1 (.t 103) (.t 104))), (some (102, true))⟩ (.quiet ⟨(some 106), (.op (.load (.t 105))), (some (102, true))⟩ (.quiet ⟨(some 107), (.op (.mv (.t 0))), (some (102, true))⟩ (.quiet ⟨(some 108), (.op (.mv (.t 1))), (some (102, true))⟩ (.quiet ⟨(some 109), (.op (.iaddrS 1 (.t 107) (.t 108))), (some (102, true))⟩ (.quiet ⟨(some 110), (.op (.load (.t 109))), (some (102, true))⟩ (.loud ⟨(some 111), (.call (.f 84) [(.t 106), (.t 110)]), (some (102, true))⟩ [] (.quiet ⟨(some 112), (.op (.pick (.t 102) (.t 111) (.k (.bool false)))), none⟩ .nil)))))))))))))))
    (.cond (.t 112) .skip
    (.exit 6)))
    (.block 7 (.reg [⟨(some 113), (.op (.mv (.t 10))), none⟩, ⟨(some 114), (.op (.bin .add (.t 113) (.k (.int .i64 1)))), none⟩, ⟨(some 10), (.op (.mv (.t 114))), none⟩])))))
   (.seq (.block 8 (.loop (.seq (.seq (.dreg (.quiet ⟨(some 115), (.op (.mv (.t 10))), none⟩ (.quiet ⟨(some 116), (.op (.mv (.t 11))), none⟩ (.quiet ⟨(some 117), (.op (.bin .leq (.t 115) (.t 116))), none⟩ (.quiet ⟨(some 118), (.op (.mv (.t 117))), none⟩ (.quiet ⟨(some 119), (.op (.mv (.t 0))), (some (118, true))⟩ (.quiet ⟨(some 120), (.op (.mv (.t 11))), (some (118, true))⟩ (.quiet ⟨(some 121), (.op (.iaddrS 1 (.t 119) (.t 120))), (some (118, true))⟩ (.quiet ⟨(some 122), (.op (.load (.t 121))), (some (118, true))⟩ (.quiet ⟨(some 123), (.op (.mv (.t 0))), (some (118, true))⟩ (.quiet ⟨(some 124), (.op (.mv (.t 1))), (some (118, true))⟩ (.quiet ⟨(some 125), (.op (.iaddrS 1 (.t 123) (.t 124))), (some (118, true))⟩ (.quiet ⟨(some 126), (.op (.load (.t 125))), (some (118, true))⟩ (.loud ⟨(some 127), (.call (.f 84) [(.t 122), (.t 126)]), (some (118, true))⟩ [] (.quiet ⟨(some 128), (.op (.un .not (.t 127))), (some (118, true))⟩ (.quiet ⟨(some 129), (.op (.pick (.t 118) (.t 128) (.k (.bool false)))), none⟩ .nil))))))))))))))))
    (.cond (.t 129) .skip
    (.exit 8)))
    (.block 9 (.reg [⟨(some 130), (.op (.mv (.t 11))), none⟩, ⟨(some 131), (.op (.bin .sub (.t 130) (.k (.int .i64 1)))), none⟩, ⟨(some 11), (.op (.mv (.t 131))), none⟩])))))
   (.seq (.seq (.reg [⟨(some 132), (.op (.mv (.t 10))), none⟩, ⟨(some 133), (.op (.mv (.t 11))), none⟩, ⟨(some 134), (.op (.bin .gtr (.t 132) (.t 133))), none⟩])
   (.cond (.t 134) (.exit 4)
   .skip))
   (.seq (.dreg (.quiet ⟨(some 135), (.op (.mv (.t 0))), none⟩ (.quiet ⟨(some 136), (.op (.mv (.t 10))), none⟩ (.quiet ⟨(some 137), (.op (.mv (.t 0))), none⟩ (.quiet ⟨(some 138), (.op (.mv (.t 11))), none⟩ (.quiet ⟨(some 139), (.op (.mv (.t 0))), none⟩ (.quiet ⟨(some 140), (.op (.mv (.t 11))), none⟩ (.quiet ⟨(some 141), (.op (.iaddrS 1 (.t 139) (.t 140))), none⟩ (.quiet ⟨(some 142), (.op (.load (.t 141))), none⟩ (.quiet ⟨(some 143), (.op (.mv (.t 0))), none⟩ (.quiet ⟨(some 144), (.op (.mv (.t 10))), none⟩ (.quiet ⟨(some 145), (.op (.iaddrS 1 (.t 143) (.t 144))), none⟩ (.quiet ⟨(some 146), (.op (.load (.t 145))), none⟩ (.quiet ⟨(some 147), (.op (.iaddrS 1 (.t 135) (.t 136))), none⟩ (.loud ⟨none, (.op (.store 1 (.t 147) (.t 142))), none⟩ [] (.quiet ⟨(some 148), (.op (.iaddrS 1 (.t 137) (.t 138))), none⟩ (.loud ⟨none, (.op (.store 1 (.t 148) (.t 146))), none⟩ [] .nil)))))))))))))))))
   (.seq (.reg [⟨(some 149), (.op (.mv (.t 10))), none⟩, ⟨(some 150), (.op (.bin .add (.t 149) (.k (.int .i64 1)))), none⟩, ⟨(some 10), (.op (.mv (.t 150))), none⟩])
   (.reg [⟨(some 151), (.op (.mv (.t 11))), none⟩, ⟨(some 152), (.op (.bin .sub (.t 151) (.k (.int .i64 1)))), none⟩, ⟨(some 11), (.op (.mv (.t 152))), none⟩])))))))))
  (.seq (.dreg (.quiet ⟨(some 153), (.op (.mv (.t 0))), none⟩ (.quiet ⟨(some 154), (.op (.mv (.t 11))), none⟩ (.quiet ⟨(some 155), (.op (.mv (.t 0))), none⟩ (.quiet ⟨(some 156), (.op (.mv (.t 1))), none⟩ (.quiet ⟨(some 157), (.op (.mv (.t 0))), none⟩ (.quiet ⟨(some 158), (.op (.mv (.t 1))), none⟩ (.quiet ⟨(some 159), (.op (.iaddrS 1 (.t 157) (.t 158))), none⟩ (.quiet ⟨(some 160), (.op (.load (.t 159))), none⟩ (.quiet ⟨(some 161), (.op (.mv (.t 0))), none⟩ (.quiet ⟨(some 162), (.op (.mv (.t 11))), none⟩ (.quiet ⟨(some 163), (.op (.iaddrS 1 (.t 161) (.t 162))), none⟩ (.quiet ⟨(some 164), (.op (.load (.t 163))), none⟩ (.quiet ⟨(some 165), (.op (.iaddrS 1 (.t 153) (.t 154))), none⟩ (.loud ⟨none, (.op (.store 1 (.t 165) (.t 160))), none⟩ [] (.quiet ⟨(some 166), (.op (.iaddrS 1 (.t 155) (.t 156))), none⟩ (.loud ⟨none, (.op (.store 1 (.t 166) (.t 164))), none⟩ [] .nil)))))))))))))))))
  (.seq (.reg [⟨(some 167), (.op (.mv (.t 11))), none⟩, ⟨(some 8), (.op (.mv (.t 167))), none⟩, ⟨(some 9), (.op (.mv (.k (.bool false)))), none⟩])
  .ret))))))))))))
def a86 : AF := ⟨168, [(.t 8), (.t 9)], .code b86, none⟩
theorem ok86 : AFOk Try.prog ext 86 a86 := .of Try.func86 (by kernel_rfl) (by kernel_rfl) (by kernel_rfl) (by kernel_rfl)
/-! 87: math/bits.Len32 -/
def b87 : AC :=
  (.seq (.reg [⟨(some 2), (.op (.mv (.k (.int .i64 0)))), none⟩])
  (.seq (.seq (.reg [⟨(some 3), (.op (.mv (.t 0))), none⟩, ⟨(some 4), (.op (.bin .geq (.t 3) (.k (.int .u32 65536)))), none⟩])
  (.cond (.t 4) (.seq (.reg [⟨(some 5), (.op (.mv (.t 0))), none⟩, ⟨(some 6), (.op (.bin .shr (.t 5) (.k (.int .u64 16)))), none⟩, ⟨(some 0), (.op (.mv (.t 6))), none⟩])
  (.reg [⟨(some 2), (.op (.mv (.k (.int .i64 16)))), none⟩]))
  .skip))
  (.seq (.seq (.reg [⟨(some 7), (.op (.mv (.t 0))), none⟩, ⟨(some 8), (.op (.bin .geq (.t 7) (.k (.int .u32 256)))), none⟩])
  (.cond (.t 8) (.seq (.reg [⟨(some 9), (.op (.mv (.t 0))), none⟩, ⟨(some 10), (.op (.bin .shr (.t 9) (.k (.int .u64 8)))), none⟩, ⟨(some 0), (.op (.mv (.t 10))), none⟩])
  (.reg [⟨(some 11), (.op (.mv (.t 2))), none⟩, ⟨(some 12), (.op (.bin .add (.t 11) (.k (.int .i64 8)))), none⟩, ⟨(some 2), (.op (.mv (.t 12))), none⟩]))
  .skip))
  (.seq (.reg [⟨(some 13), (.op (.mv (.t 2))), none⟩, ⟨(some 14), (.op (.mv (.t 0))), none⟩, ⟨(some 15), (.op (.conv (.int .u8) (.t 14))), none⟩, ⟨(some 16), (.op (.indexS (.k (.string ⟨#[0, 1, 2, 2, 3, 3, 3, 3, 4, 4, 4, 4, 4, 4, 4, 4, 5, 5, 5, 5, 5, 5, 5, 5, 5, 5, 5, 5, 5, 5, 5, 5, 6, 6, 6, 6, 6, 6, 6, 6, 6, 6, 6, 6, 6, 6, 6, 6, 6, 6, 6, 6, 6, 6, 6, 6, 6, 6, 6, 6, 6, 6, 6, 6, 7, 7, 7, 7, 7, 7, 7, 7, 7, 7, 7, 7, 7, 7, 7, 7, 7, 7, 7, 7, 7, 7, 7, 7, 7, 7, 7, 7, 7, 7, 7, 7, 7, 7, 7, 7, 7, 7, 7, 7, 7, 7, 7, 7, 7, 7, 7, 7, 7, 7, 7, 7, 7, 7, 7, 7, 7, 7, 7, 7, 7, 7, 7, 7, 8, 8, 8, 8, 8, 8, 8, 8, 8, 8, 8, 8, 8, 8, 8, 8, 8, 8, 8, 8, 8, 8, 8, 8, 8, 8, 8, 8, 8, 8, 8, 8, 8, 8, 8, 8, 8, 8, 8, 8, 8, 8, 8, 8, 8, 8, 8, 8, 8, 8, 8, 8, 8, 8, 8, 8, 8, 8, 8, 8, 8, 8, 8, 8, 8, 8, 8, 8, 8, 8, 8, 8, 8, 8, 8, 8, 8, 8, 8, 8, 8, 8, 8, 8, 8, 8, 8, 8, 8, 8, 8, 8, 8, 8, 8, 8, 8, 8, 8, 8, 8, 8, 8, 8, 8, 8, 8, 8, 8, 8, 8, 8, 8, 8, 8, 8, 8, 8, 8, 8, 8, 8, 8, 8, 8, 8, 8, 8]⟩)) (.t 15))), none⟩, ⟨(some 17), (.op (.conv (.int .i64) (.t 16))), none⟩, ⟨(some 18), (.op (.bin .add (.t 13) (.t 17))), none⟩, ⟨(some 2), (.op (.mv (.t 18))), none⟩])
  .ret))))
def a87 : AF := ⟨19, [(.t 2)], .code b87, none⟩
theorem ok87 : AFOk Try.prog ext 87 a87 := .of Try.func87 (by kernel_rfl) (by kernel_rfl) (by kernel_rfl) (by kernel_rfl)
/-! 88: math/bits.Len64 -/
def b88 : AC :=
  (.seq (.reg [⟨(some 2), (.op (.mv (.k (.int .i64 0)))), none⟩])
  (.seq (.seq (.reg [⟨(some 3), (.op (.mv (.t 0))), none⟩, ⟨(some 4), (.op (.bin .geq (.t 3) (.k (.int .u64 4294967296)))), none⟩])
  (.cond (.t 4) (.seq (.reg [⟨(some 5), (.op (.mv (.t 0))), none⟩, ⟨(some 6), (.op (.bin .shr (.t 5) (.k (.int .u64 32)))), none⟩, ⟨(some 0), (.op (.mv (.t 6))), none⟩])
  (.reg [⟨(some 2), (.op (.mv (.k (.int .i64 32)))), none⟩]))
  .skip))
  (.seq (.seq (.reg [⟨(some 7), (.op (.mv (.t 0))), none⟩, ⟨(some 8), (.op (.bin .geq (.t 7) (.k (.int .u64 65536)))), none⟩])
  (.cond (.t 8) (.seq (.reg [⟨(some 9), (.op (.mv (.t 0))), none⟩, ⟨(some 10), (.op (.bin .shr (.t 9) (.k (.int .u64 16)))), none⟩, ⟨(some 0), (.op (.mv (.t 10))), none⟩])
  (.reg [⟨(some 11), (.op (.mv (.t 2))), none⟩, ⟨(some 12), (.op (.bin .add (.t 11) (.k (.int .i64 16)))), none⟩, ⟨(some 2), (.op (.mv (.t 12))), none⟩]))
  .skip))
  (.seq (.seq (.reg [⟨(some 13), (.op (.mv (.t 0))), none⟩, ⟨(some 14), (.op (.bin .geq (.t 13) (.k (.int .u64 256)))), none⟩])
  (.cond (.t 14) (.seq (.reg [⟨(some 15), (.op (.mv (.t 0))), none⟩, ⟨(some 16), (.op (.bin .shr (.t 15) (.k (.int .u64 8)))), none⟩, ⟨(some 0), (.op (.mv (.t 16))), none⟩])
  (.reg [⟨(some 17), (.op (.mv (.t 2))), none⟩, ⟨(some 18), (.op (.bin .add (.t 17) (.k (.int .i64 8)))), none⟩, ⟨(some 2), (.op (.mv (.t 18))), none⟩]))
  .skip))
  (.seq (.reg [⟨(some 19), (.op (.mv (.t 2))), none⟩, ⟨(some 20), (.op (.mv (.t 0))), none⟩, ⟨(some 21), (.op (.conv (.int .u8) (.t 20))), none⟩, ⟨(some 22), (.op (.indexS (.k (.string ⟨#[0, 1, 2, 2, 3, 3, 3, 3, 4, 4, 4, 4, 4, 4, 4, 4, 5, 5, 5, 5, 5, 5, 5, 5, 5, 5, 5, 5, 5, 5, 5, 5, 6, 6, 6, 6, 6, 6, 6, 6, 6, 6, 6, 6, 6, 6, 6, 6, 6, 6, 6, 6, 6, 6, 6, 6, 6, 6, 6, 6, 6, 6, 6, 6, 7, 7, 7, 7, 7, 7, 7, 7, 7, 7, 7, 7, 7, 7, 7, 7, 7, 7, 7, 7, 7, 7, 7, 7, 7, 7, 7, 7, 7, 7, 7, 7, 7, 7, 7, 7, 7, 7, 7, 7, 7, 7, 7, 7, 7, 7, 7, 7, 7, 7, 7, 7, 7, 7, 7, 7, 7, 7, 7, 7, 7, 7, 7, 7, 8, 8, 8, 8, 8, 8, 8, 8, 8, 8, 8, 8, 8, 8, 8, 8, 8, 8, 8, 8, 8, 8, 8, 8, 8, 8, 8, 8, 8, 8, 8, 8, 8, 8, 8, 8, 8, 8, 8, 8, 8, 8, 8, 8, 8, 8, 8, 8, 8, 8, 8, 8, 8, 8, 8, 8, 8, 8, 8, 8, 8, 8, 8, 8, 8, 8, 8, 8, 8, 8, 8, 8, 8, 8, 8, 8, 8, 8, 8, 8, 8, 8, 8, 8, 8, 8, 8, 8, 8, 8, 8, 8, 8, 8, 8, 8, 8, 8, 8, 8, 8, 8, 8, 8, 8, 8, 8, 8, 8, 8, 8, 8, 8, 8, 8, 8, 8, 8, 8, 8, 8, 8, 8, 8, 8, 8, 8, 8]⟩)) (.t 21))), none⟩, ⟨(some 23), (.op (.conv (.int .i64) (.t 22))), none⟩, ⟨(some 24), (.op (.bin .add (.t 19) (.t 23))), none⟩, ⟨(some 2), (.op (.mv (.t 24))), none⟩])
  .ret)))))
def a88 : AF := ⟨25, [(.t 2)], .code b88, none⟩
theorem ok88 : AFOk Try.prog ext 88 a88 := .of Try.func88 (by kernel_rfl) (by kernel_rfl) (by kernel_rfl) (by kernel_rfl)
/-! 89: slices.siftDownOrdered[int] -/
def b89 : AC :=
  (.seq (.reg [⟨(some 10), (.op (.mv (.t 1))), none⟩, ⟨(some 8), (.op (.mv (.t 10))), none⟩])
  (.block 0 (.loop (.block 1 (.seq (.reg [⟨(some 11), (.op (.mv (.t 8))), none⟩, ⟨(some 12), (.op (.bin .mul (.k (.int .i64 2)) (.t 11))), none⟩, ⟨(some 13), (.op (.bin .add (.t 12) (.k (.int .i64 1)))), none⟩, ⟨(some 9), (.op (.mv (.t 13))), none⟩])
   (.seq (.seq (.reg [⟨(some 14), (.op (.mv (.t 9))), none⟩, ⟨(some 15), (.op (.mv (.t 2))), none⟩, ⟨(some 16), (.op (.bin .geq (.t 14) (.t 15))), none⟩])
   (.cond (.t 16) (.exit 0)
   .skip))
   (.seq (.seq (.dreg (.quiet ⟨(some 17), (.op (.mv (.t 9))), none⟩ (.quiet ⟨(some 18), (.op (.bin .add (.t 17) (.k (.int .i64 1)))), none⟩ (.quiet ⟨(some 19), (.op (.mv (.t 2))), none⟩ (.quiet ⟨(some 20), (.op (.bin .lss (.t 18) (.t 19))), none⟩ (.quiet ⟨(some 21), (.op (.mv (.t 20))), none⟩ (.quiet ⟨(some 22), (.op (.mv (.t 0))), (some (21, true))⟩ (.quiet ⟨(some 23), (.op (.mv (.t 3))), (some (21, true))⟩ (.quiet ⟨(some 24), (.op (.mv (.t 9))), (some (21, true))⟩ (.quiet ⟨(some 25), (.op (.bin .add (.t 23) (.t 24))), (some (21, true))⟩ (.quiet ⟨(some 26), (.op (.iaddrS 1 (.t 22) (.t 25))), (some (21, true))⟩ (.quiet ⟨(some 27), (.op (.load (.t 26))), (some (21, true))⟩ (.quiet ⟨(some 28), (.op (.mv (.t 0))), (some (21, true))⟩ (.quiet ⟨(some 29), (.op (.mv (.t 3))), (some (21, true))⟩ (.quiet ⟨(some 30), (.op (.mv (.t 9))), (some (21, true))⟩ (.quiet ⟨(some 31), (.op (.bin .add (.t 29) (.t 30))), (some (21, true))⟩ (.quiet ⟨(some 32), (.op (.bin .add (.t 31) (.k (.int .i64 1)))), (some (21, true))⟩ (.quiet ⟨(some 33), (.op (.iaddrS 1 (.t 28) (.t 32))), (some (21, true))⟩ (.quiet ⟨(some 34), (.op (.load (.t 33))), (some (21, true))⟩ (.loud ⟨(some 35), (.call (.f 84) [(.t 27), (.t 34)]), (some (21, true))⟩ [] (.quiet ⟨(some 36), (.op (.pick (.t 21) (.t 35) (.k (.bool false)))), none⟩ .nil)))))))))))))))))))))
   (.cond (.t 36) (.reg [⟨(some 37), (.op (.mv (.t 9))), none⟩, ⟨(some 38), (.op (.bin .add (.t 37) (.k (.int .i64 1)))), none⟩, ⟨(some 9), (.op (.mv (.t 38))), none⟩])
   .skip))
   (.seq (.seq (.dreg (.quiet ⟨(some 39), (.op (.mv (.t 0))), none⟩ (.quiet ⟨(some 40), (.op (.mv (.t 3))), none⟩ (.quiet ⟨(some 41), (.op (.mv (.t 8))), none⟩ (.quiet ⟨(some 42), (.op (.bin .add (.t 40) (.t 41))), none⟩ (.quiet ⟨(some 43), (.op (.iaddrS 1 (.t 39) (.t 42))), none⟩ (.quiet ⟨(some 44), (.op (.load (.t 43))), none⟩ (.quiet ⟨(some 45), (.op (.mv (.t 0))), none⟩ (.quiet ⟨(some 46), (.op (.mv (.t 3))), none⟩ (.quiet ⟨(some 47), (.op (.mv (.t 9))), none⟩ (.quiet ⟨(some 48), (.op (.bin .add (.t 46) (.t 47))), none⟩ (.quiet ⟨(some 49), (.op (.iaddrS 1 (.t 45) (.t 48))), none⟩ (.quiet ⟨(some 50), (.op (.load (.t 49))), none⟩ (.loud ⟨(some 51), (.call (.f 84) [(.t 44), (.t 50)]), none⟩ [] (.quiet ⟨(some 52), (.op (.un .not (.t 51))), none⟩ .nil)))))))))))))))
   (.cond (.t 52) .ret
   .skip))
   (.seq (.dreg (.quiet ⟨(some 53), (.op (.mv (.t 0))), none⟩ (.quiet ⟨(some 54), (.op (.mv (.t 3))), none⟩ (.quiet ⟨(some 55), (.op (.mv (.t 8))), none⟩ (.quiet ⟨(some 56), (.op (.bin .add (.t 54) (.t 55))), none⟩ (.quiet ⟨(some 57), (.op (.mv (.t 0))), none⟩ (.quiet ⟨(some 58), (.op (.mv (.t 3))), none⟩ (.quiet ⟨(some 59), (.op (.mv (.t 9))), none⟩ (.quiet ⟨(some 60), (.op (.bin .add (.t 58) (.t 59))), none⟩ (.quiet ⟨(some 61), (.op (.mv (.t 0))), none⟩ (.quiet ⟨(some 62), (.op (.mv (.t 3))), none⟩ (.quiet ⟨(some 63), (.op (.mv (.t 9))), none⟩ (.quiet ⟨(some 64), (.op (.bin .add (.t 62) (.t 63))), none⟩ (.quiet ⟨(some 65), (.op (.iaddrS 1 (.t 61) (.t 64))), none⟩ (.quiet ⟨(some 66), (.op (.load (.t 65))), none⟩ (.quiet ⟨(some 67), (.op (.mv (.t 0))), none⟩ (.quiet ⟨(some 68), (.op (.mv (.t 3))), none⟩ (.quiet ⟨(some 69), (.op (.mv (.t 8))), none⟩ (.quiet ⟨(some 70), (.op (.bin .add (.t 68) (.t 69))), none⟩ (.quiet ⟨(some 71), (.op (.iaddrS 1 (.t 67) (.t 70))), none⟩ (.quiet ⟨(some 72), (.op (.load (.t 71))), none⟩ (.quiet ⟨(some 73), (.op (.iaddrS 1 (.t 53) (.t 56))), none⟩ (.loud ⟨none, (.op (.store 1 (.t 73) (.t 66))), none⟩ [] (.quiet ⟨(some 74), (.op (.iaddrS 1 (.t 57) (.t 60))), none⟩ (.loud ⟨none, (.op (.store 1 (.t 74) (.t 72))), none⟩ [] .nil)))))))))))))))))))))))))
   (.reg [⟨(some 75), (.op (.mv (.t 9))), none⟩, ⟨(some 8), (.op (.mv (.t 75))), none⟩]))))))))))
def a89 : AF := ⟨76, [], .code b89, none⟩
theorem ok89 : AFOk Try.prog ext 89 a89 := .of Try.func89 (by kernel_rfl) (by kernel_rfl) (by kernel_rfl) (by kernel_rfl)
/-! 90: slices.nextPowerOfTwo -/
def b90 : AC :=
  (.seq (.reg [⟨(some 2), (.op (.mv (.k (.int .u64 0)))), none⟩])
  (.seq (.reg [⟨(some 3), (.op (.mv (.t 0))), none⟩, ⟨(some 4), (.op (.conv (.int .u64) (.t 3))), none⟩, ⟨(some 5), (.call (.f 69) [(.t 4)]), none⟩, ⟨(some 6), (.op (.bin .shl (.k (.int .u64 1)) (.t 5))), none⟩, ⟨(some 2), (.op (.mv (.t 6))), none⟩])
  .ret))
def a90 : AF := ⟨7, [(.t 2)], .code b90, none⟩
theorem ok90 : AFOk Try.prog ext 90 a90 := .of Try.func90 (by kernel_rfl) (by kernel_rfl) (by kernel_rfl) (by kernel_rfl)
/-! 91: (*slices.xorshift).Next -/
def b91 : AC :=
  (.seq (.reg [⟨(some 2), (.op (.mv (.k (.int .u64 0)))), none⟩])
  (.seq (.dreg (.quiet ⟨(some 3), (.op (.mv (.t 0))), none⟩ (.quiet ⟨(some 4), (.op (.nilchk (.t 3))), none⟩ (.quiet ⟨(some 5), (.op (.load (.t 4))), none⟩ (.quiet ⟨(some 6), (.op (.mv (.t 0))), none⟩ (.quiet ⟨(some 7), (.op (.nilchk (.t 6))), none⟩ (.quiet ⟨(some 8), (.op (.load (.t 7))), none⟩ (.quiet ⟨(some 9), (.op (.bin .shl (.t 8) (.k (.int .u64 13)))), none⟩ (.quiet ⟨(some 10), (.op (.bin .xor (.t 5) (.t 9))), none⟩ (.quiet ⟨(some 11), (.op (.nilchk (.t 3))), none⟩ (.loud ⟨none, (.op (.store 1 (.t 11) (.t 10))), none⟩ [] .nil)))))))))))
  (.seq (.dreg (.quiet ⟨(some 12), (.op (.mv (.t 0))), none⟩ (.quiet ⟨(some 13), (.op (.nilchk (.t 12))), none⟩ (.quiet ⟨(some 14), (.op (.load (.t 13))), none⟩ (.quiet ⟨(some 15), (.op (.mv (.t 0))), none⟩ (.quiet ⟨(some 16), (.op (.nilchk (.t 15))), none⟩ (.quiet ⟨(some 17), (.op (.load (.t 16))), none⟩ (.quiet ⟨(some 18), (.op (.bin .shr (.t 17) (.k (.int .u64 7)))), none⟩ (.quiet ⟨(some 19), (.op (.bin .xor (.t 14) (.t 18))), none⟩ (.quiet ⟨(some 20), (.op (.nilchk (.t 12))), none⟩ (.loud ⟨none, (.op (.store 1 (.t 20) (.t 19))), none⟩ [] .nil)))))))))))
  (.seq (.dreg (.quiet ⟨(some 21), (.op (.mv (.t 0))), none⟩ (.quiet ⟨(some 22), (.op (.nilchk (.t 21))), none⟩ (.quiet ⟨(some 23), (.op (.load (.t 22))), none⟩ (.quiet ⟨(some 24), (.op (.mv (.t 0))), none⟩ (.quiet ⟨(some 25), (.op (.nilchk (.t 24))), none⟩ (.quiet ⟨(some 26), (.op (.load (.t 25))), none⟩ (.quiet ⟨(some 27), (.op (.bin .shl (.t 26) (.k (.int .u64 17)))), none⟩ (.quiet ⟨(some 28), (.op (.bin .xor (.t 23) (.t 27))), none⟩ (.quiet ⟨(some 29), (.op (.nilchk (.t 21))), none⟩ (.loud ⟨none, (.op (.store 1 (.t 29) (.t 28))), none⟩ [] .nil)))))))))))
  (.seq (.reg [⟨(some 30), (.op (.mv (.t 0))), none⟩, ⟨(some 31), (.op (.nilchk (.t 30))), none⟩, ⟨(some 32), (.op (.load (.t 31))), none⟩, ⟨(some 2), (.op (.mv (.t 32))), none⟩])
  .ret)))))
def a91 : AF := ⟨33, [(.t 2)], .code b91, none⟩
theorem ok91 : AFOk Try.prog ext 91 a91 := .of Try.func91 (by kernel_rfl) (by kernel_rfl) (by kernel_rfl) (by kernel_rfl)
/-! 92: slices.medianAdjacentOrdered[int] -/
def b92 : AC :=
  (.seq (.reg [⟨(some 6), (.op (.mv (.k (.int .i64 0)))), none⟩])
  (.seq (.reg [⟨(some 7), (.op (.mv (.t 0))), none⟩, ⟨(some 8), (.op (.mv (.t 1))), none⟩, ⟨(some 9), (.op (.bin .sub (.t 8) (.k (.int .i64 1)))), none⟩, ⟨(some 10), (.op (.mv (.t 1))), none⟩, ⟨(some 11), (.op (.mv (.t 1))), none⟩, ⟨(some 12), (.op (.bin .add (.t 11) (.k (.int .i64 1)))), none⟩, ⟨(some 13), (.op (.mv (.t 2))), none⟩, ⟨(some 14), (.call (.f 93) [(.t 7), (.t 9), (.t 10), (.t 12), (.t 13)]), none⟩, ⟨(some 6), (.op (.mv (.t 14))), none⟩])
  .ret))
def a92 : AF := ⟨15, [(.t 6)], .code b92, none⟩
theorem ok92 : AFOk Try.prog ext 92 a92 := .of Try.func92 (by kernel_rfl) (by kernel_rfl) (by kernel_rfl) (by kernel_rfl)
/-! 93: slices.medianOrdered[int] -/
def b93 : AC :=
  (.seq (.reg [⟨(some 10), (.op (.mv (.k (.int .i64 0)))), none⟩])
  (.seq (.reg [⟨(some 12), (.op (.mv (.t 0))), none⟩, ⟨(some 13), (.op (.mv (.t 1))), none⟩, ⟨(some 14), (.op (.mv (.t 2))), none⟩, ⟨(some 15), (.op (.mv (.t 4))), none⟩, ⟨(some 16), (.call (.f 95) [(.t 12), (.t 13), (.t 14), (.t 15)]), none⟩, ⟨(some 11), (.op (.mv (.t 16))), none⟩, ⟨(some 17), (.op (.extract (.t 11) 0)), none⟩, ⟨(some 18), (.op (.extract (.t 11) 1)), none⟩, ⟨(some 1), (.op (.mv (.t 17))), none⟩, ⟨(some 2), (.op (.mv (.t 18))), none⟩])
  (.seq (.reg [⟨(some 20), (.op (.mv (.t 0))), none⟩, ⟨(some 21), (.op (.mv (.t 2))), none⟩, ⟨(some 22), (.op (.mv (.t 3))), none⟩, ⟨(some 23), (.op (.mv (.t 4))), none⟩, ⟨(some 24), (.call (.f 95) [(.t 20), (.t 21), (.t 22), (.t 23)]), none⟩, ⟨(some 19), (.op (.mv (.t 24))), none⟩, ⟨(some 25), (.op (.extract (.t 19) 0)), none⟩, ⟨(some 26), (.op (.extract (.t 19) 1)), none⟩, ⟨(some 2), (.op (.mv (.t 25))), none⟩, ⟨(some 3), (.op (.mv (.t 26))), none⟩])
  (.seq (.reg [⟨(some 28), (.op (.mv (.t 0))), none⟩, ⟨(some 29), (.op (.mv (.t 1))), none⟩, ⟨(some 30), (.op (.mv (.t 2))), none⟩, ⟨(some 31), (.op (.mv (.t 4))), none⟩, ⟨(some 32), (.call (.f 95) [(.t 28), (.t 29), (.t 30), (.t 31)]), none⟩, ⟨(some 27), (.op (.mv (.t 32))), none⟩, ⟨(some 33), (.op (.extract (.t 27) 0)), none⟩, ⟨(some 34), (.op (.extract (.t 27) 1)), none⟩, ⟨(some 1), (.op (.mv (.t 33))), none⟩, ⟨(some 2), (.op (.mv (.t 34))), none⟩])
  (.seq (.reg [⟨(some 35), (.op (.mv (.t 2))), none⟩, ⟨(some 10), (.op (.mv (.t 35))), none⟩])
  .ret)))))
def a93 : AF := ⟨36, [(.t 10)], .code b93, none⟩
theorem ok93 : AFOk Try.prog ext 93 a93 := .of Try.func93 (by kernel_rfl) (by kernel_rfl) (by kernel_rfl) (by kernel_rfl)
/-! 94: cmp.isNaN[int] -/
def b94 : AC :=
  (.seq (.reg [⟨(some 2), (.op (.mv (.k (.bool false)))), none⟩])
  (.seq (.reg [⟨(some 3), (.op (.mv (.t 0))), none⟩, ⟨(some 4), (.op (.mv (.t 0))), none⟩, ⟨(some 5), (.op (.bin .neq (.t 3) (.t 4))), none⟩, ⟨(some 2), (.op (.mv (.t 5))), none⟩])
  .ret))
def a94 : AF := ⟨6, [(.t 2)], .code b94, none⟩
theorem ok94 : AFOk Try.prog ext 94 a94 := .of Try.func94 (by kernel_rfl) (by kernel_rfl) (by kernel_rfl) (by kernel_rfl)
/-! 95: slices.order2Ordered[int] -/
def b95 : AC :=
  (.seq (.reg [⟨(some 8), (.op (.mv (.k (.int .i64 0)))), none⟩, ⟨(some 9), (.op (.mv (.k (.int .i64 0)))), none⟩])
  (.seq (.seq (.dreg (.quiet ⟨(some 10), (.op (.mv (.t 0))), none⟩ (.quiet ⟨(some 11), (.op (.mv (.t 2))), none⟩ (.quiet ⟨(some 12), (.op (.iaddrS 1 (.t 10) (.t 11))), none⟩ (.quiet ⟨(some 13), (.op (.load (.t 12))), none⟩ (.quiet ⟨(some 14), (.op (.mv (.t 0))), none⟩ (.quiet ⟨(some 15), (.op (.mv (.t 1))), none⟩ (.quiet ⟨(some 16), (.op (.iaddrS 1 (.t 14) (.t 15))), none⟩ (.quiet ⟨(some 17), (.op (.load (.t 16))), none⟩ (.loud ⟨(some 18), (.call (.f 84) [(.t 13), (.t 17)]), none⟩ [] .nil))))))))))
  (.cond (.t 18) (.seq (.reg [⟨(some 19), (.op (.mv (.t 3))), none⟩, ⟨(some 20), (.op (.nilchk (.t 19))), none⟩, ⟨(some 21), (.op (.load (.t 20))), none⟩, ⟨(some 22), (.op (.bin .add (.t 21) (.k (.int .i64 1)))), none⟩, ⟨(some 23), (.op (.nilchk (.t 19))), none⟩, ⟨none, (.op (.store 1 (.t 23) (.t 22))), none⟩])
  (.seq (.reg [⟨(some 24), (.op (.mv (.t 2))), none⟩, ⟨(some 25), (.op (.mv (.t 1))), none⟩, ⟨(some 8), (.op (.mv (.t 24))), none⟩, ⟨(some 9), (.op (.mv (.t 25))), none⟩])
  .ret))
  .skip))
  (.seq (.reg [⟨(some 26), (.op (.mv (.t 1))), none⟩, ⟨(some 27), (.op (.mv (.t 2))), none⟩, ⟨(some 8), (.op (.mv (.t 26))), none⟩, ⟨(some 9), (.op (.mv (.t 27))), none⟩])
  .ret)))
def a95 : AF := ⟨28, [(.t 8), (.t 9)], .code b95, none⟩
theorem ok95 : AFOk Try.prog ext 95 a95 := .of Try.func95 (by kernel_rfl) (by kernel_rfl) (by kernel_rfl) (by kernel_rfl)
def forms : FuncId → Option AF
  | 2 => some a2
  | 3 => some a3
  | 4 => some a4
  | 5 => some a5
  | 6 => some a6
  | 7 => some a7
  | 8 => some a8
  | 9 => some a9
  | 10 => some a10
  | 11 => some a11
  | 12 => some a12
  | 13 => some a13
  | 14 => some a14
  | 15 => some a15
  | 16 => some a16
  | 17 => some a17
  | 18 => some a18
  | 19 => some a19
  | 20 => some a20
  | 21 => some a21
  | 22 => some a22
  | 23 => some a23
  | 24 => some a24
  | 25 => some a25
  | 26 => some a26
  | 27 => some a27
  | 28 => some a28
  | 29 => some a29
  | 30 => some a30
  | 31 => some a31
  | 32 => some a32
  | 33 => some a33
  | 34 => some a34
  | 35 => some a35
  | 36 => some a36
  | 37 => some a37
  | 38 => some a38
  | 39 => some a39
  | 40 => some a40
  | 41 => some a41
  | 42 => some a42
  | 43 => some a43
  | 44 => some a44
  | 45 => some a45
  | 46 => some a46
  | 47 => some a47
  | 48 => some a48
  | 49 => some a49
  | 50 => some a50
  | 51 => some a51
  | 52 => some a52
  | 53 => some a53
  | 54 => some a54
  | 56 => some a56
  | 57 => some a57
  | 58 => some a58
  | 59 => some a59
  | 60 => some a60
  | 61 => some a61
  | 62 => some a62
  | 63 => some a63
  | 64 => some a64
  | 65 => some a65
  | 66 => some a66
  | 67 => some a67
  | 68 => some a68
  | 69 => some a69
  | 70 => some a70
  | 71 => some a71
  | 72 => some a72
  | 73 => some a73
  | 74 => some a74
  | 75 => some a75
  | 76 => some a76
  | 77 => some a77
  | 78 => some a78
  | 79 => some a79
  | 80 => some a80
  | 81 => some a81
  | 82 => some a82
  | 83 => some a83
  | 84 => some a84
  | 85 => some a85
  | 86 => some a86
  | 87 => some a87
  | 88 => some a88
  | 89 => some a89
  | 90 => some a90
  | 91 => some a91
  | 92 => some a92
  | 93 => some a93
  | 94 => some a94
  | 95 => some a95
  | _ => none
theorem forms2 : forms 2 = some a2 := rfl
theorem forms3 : forms 3 = some a3 := rfl
theorem forms4 : forms 4 = some a4 := rfl
theorem forms5 : forms 5 = some a5 := rfl
theorem forms6 : forms 6 = some a6 := rfl
theorem forms7 : forms 7 = some a7 := rfl
theorem forms8 : forms 8 = some a8 := rfl
theorem forms9 : forms 9 = some a9 := rfl
theorem forms10 : forms 10 = some a10 := rfl
theorem forms11 : forms 11 = some a11 := rfl
theorem forms12 : forms 12 = some a12 := rfl
theorem forms13 : forms 13 = some a13 := rfl
theorem forms14 : forms 14 = some a14 := rfl
theorem forms15 : forms 15 = some a15 := rfl
theorem forms16 : forms 16 = some a16 := rfl
theorem forms17 : forms 17 = some a17 := rfl
theorem forms18 : forms 18 = some a18 := rfl
theorem forms19 : forms 19 = some a19 := rfl
theorem forms20 : forms 20 = some a20 := rfl
theorem forms21 : forms 21 = some a21 := rfl
theorem forms22 : forms 22 = some a22 := rfl
theorem forms23 : forms 23 = some a23 := rfl
theorem forms24 : forms 24 = some a24 := rfl
theorem forms25 : forms 25 = some a25 := rfl
theorem forms26 : forms 26 = some a26 := rfl
theorem forms27 : forms 27 = some a27 := rfl
theorem forms28 : forms 28 = some a28 := rfl
theorem forms29 : forms 29 = some a29 := rfl
theorem forms30 : forms 30 = some a30 := rfl
theorem forms31 : forms 31 = some a31 := rfl
theorem forms32 : forms 32 = some a32 := rfl
theorem forms33 : forms 33 = some a33 := rfl
theorem forms34 : forms 34 = some a34 := rfl
theorem forms35 : forms 35 = some a35 := rfl
theorem forms36 : forms 36 = some a36 := rfl
theorem forms37 : forms 37 = some a37 := rfl
theorem forms38 : forms 38 = some a38 := rfl
theorem forms39 : forms 39 = some a39 := rfl
theorem forms40 : forms 40 = some a40 := rfl
theorem forms41 : forms 41 = some a41 := rfl
theorem forms42 : forms 42 = some a42 := rfl
theorem forms43 : forms 43 = some a43 := rfl
theorem forms44 : forms 44 = some a44 := rfl
theorem forms45 : forms 45 = some a45 := rfl
theorem forms46 : forms 46 = some a46 := rfl
theorem forms47 : forms 47 = some a47 := rfl
theorem forms48 : forms 48 = some a48 := rfl
theorem forms49 : forms 49 = some a49 := rfl
theorem forms50 : forms 50 = some a50 := rfl
theorem forms51 : forms 51 = some a51 := rfl
theorem forms52 : forms 52 = some a52 := rfl
theorem forms53 : forms 53 = some a53 := rfl
theorem forms54 : forms 54 = some a54 := rfl
theorem forms56 : forms 56 = some a56 := rfl
theorem forms57 : forms 57 = some a57 := rfl
theorem forms58 : forms 58 = some a58 := rfl
theorem forms59 : forms 59 = some a59 := rfl
theorem forms60 : forms 60 = some a60 := rfl
theorem forms61 : forms 61 = some a61 := rfl
theorem forms62 : forms 62 = some a62 := rfl
theorem forms63 : forms 63 = some a63 := rfl
theorem forms64 : forms 64 = some a64 := rfl
theorem forms65 : forms 65 = some a65 := rfl
theorem forms66 : forms 66 = some a66 := rfl
theorem forms67 : forms 67 = some a67 := rfl
theorem forms68 : forms 68 = some a68 := rfl
theorem forms69 : forms 69 = some a69 := rfl
theorem forms70 : forms 70 = some a70 := rfl
theorem forms71 : forms 71 = some a71 := rfl
theorem forms72 : forms 72 = some a72 := rfl
theorem forms73 : forms 73 = some a73 := rfl
theorem forms74 : forms 74 = some a74 := rfl
theorem forms75 : forms 75 = some a75 := rfl
theorem forms76 : forms 76 = some a76 := rfl
theorem forms77 : forms 77 = some a77 := rfl
theorem forms78 : forms 78 = some a78 := rfl
theorem forms79 : forms 79 = some a79 := rfl
theorem forms80 : forms 80 = some a80 := rfl
theorem forms81 : forms 81 = some a81 := rfl
theorem forms82 : forms 82 = some a82 := rfl
theorem forms83 : forms 83 = some a83 := rfl
theorem forms84 : forms 84 = some a84 := rfl
theorem forms85 : forms 85 = some a85 := rfl
theorem forms86 : forms 86 = some a86 := rfl
theorem forms87 : forms 87 = some a87 := rfl
theorem forms88 : forms 88 = some a88 := rfl
theorem forms89 : forms 89 = some a89 := rfl
theorem forms90 : forms 90 = some a90 := rfl
theorem forms91 : forms 91 = some a91 := rfl
theorem forms92 : forms 92 = some a92 := rfl
theorem forms93 : forms 93 = some a93 := rfl
theorem forms94 : forms 94 = some a94 := rfl
theorem forms95 : forms 95 = some a95 := rfl
set_option maxHeartbeats 4000000 in
theorem forms_ok : ∀ f af, forms f = some af → AFOk Try.prog ext f af := by
  intro f af h
  unfold forms at h
  split at h
  · cases h; exact ok2
  · cases h; exact ok3
  · cases h; exact ok4
  · cases h; exact ok5
  · cases h; exact ok6
  · cases h; exact ok7
  · cases h; exact ok8
  · cases h; exact ok9
  · cases h; exact ok10
  · cases h; exact ok11
  · cases h; exact ok12
  · cases h; exact ok13
  · cases h; exact ok14
  · cases h; exact ok15
  · cases h; exact ok16
  · cases h; exact ok17
  · cases h; exact ok18
  · cases h; exact ok19
  · cases h; exact ok20
  · cases h; exact ok21
  · cases h; exact ok22
  · cases h; exact ok23
  · cases h; exact ok24
  · cases h; exact ok25
  · cases h; exact ok26
  · cases h; exact ok27
  · cases h; exact ok28
  · cases h; exact ok29
  · cases h; exact ok30
  · cases h; exact ok31
  · cases h; exact ok32
  · cases h; exact ok33
  · cases h; exact ok34
  · cases h; exact ok35
  · cases h; exact ok36
  · cases h; exact ok37
  · cases h; exact ok38
  · cases h; exact ok39
  · cases h; exact ok40
  · cases h; exact ok41
  · cases h; exact ok42
  · cases h; exact ok43
  · cases h; exact ok44
  · cases h; exact ok45
  · cases h; exact ok46
  · cases h; exact ok47
  · cases h; exact ok48
  · cases h; exact ok49
  · cases h; exact ok50
  · cases h; exact ok51
  · cases h; exact ok52
  · cases h; exact ok53
  · cases h; exact ok54
  · cases h; exact ok56
  · cases h; exact ok57
  · cases h; exact ok58
  · cases h; exact ok59
  · cases h; exact ok60
  · cases h; exact ok61
  · cases h; exact ok62
  · cases h; exact ok63
  · cases h; exact ok64
  · cases h; exact ok65
  · cases h; exact ok66
  · cases h; exact ok67
  · cases h; exact ok68
  · cases h; exact ok69
  · cases h; exact ok70
  · cases h; exact ok71
  · cases h; exact ok72
  · cases h; exact ok73
  · cases h; exact ok74
  · cases h; exact ok75
  · cases h; exact ok76
  · cases h; exact ok77
  · cases h; exact ok78
  · cases h; exact ok79
  · cases h; exact ok80
  · cases h; exact ok81
  · cases h; exact ok82
  · cases h; exact ok83
  · cases h; exact ok84
  · cases h; exact ok85
  · cases h; exact ok86
  · cases h; exact ok87
  · cases h; exact ok88
  · cases h; exact ok89
  · cases h; exact ok90
  · cases h; exact ok91
  · cases h; exact ok92
  · cases h; exact ok93
  · cases h; exact ok94
  · cases h; exact ok95
  · cases h
theorem hext : ExtOk Try.prog ext := ⟨fun f x h => by cases h⟩
theorem hmix : Try.prog.follows .mixedOrders = true := by kernel_rfl
end Ytaajajcdgaaloaa
end Go.Proofs
