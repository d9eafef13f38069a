/-
  THE FUNCTIONS of this seat in their plain form, and that each is the loaded one's.
-/
import Derived.Test.YtnemoimbeefngaaProg
import Derived.Test.YtnemoimbeefngaaPA2
import Derived.Laws.Externs
namespace Go.Proofs
namespace Ytnemoimbeefngaa
open Go.Abs

def ext : FuncId → Option Ext1 := fun _ => none
/-! 2: gosem.cut.init -/
def b2 : AC :=
  (.reg [⟨(some 0), (.call (.f 1) []), none⟩])
def a2 : AF := ⟨1, [], .code b2, none⟩
theorem ok2 : AFOk Try.prog ext 2 a2 := .of Try.func2 (by kernel_rfl) (by kernel_rfl) (by kernel_rfl) (by kernel_rfl)
/-! 3: rowlock/rowlocklaw11.NorecAlone -/
def b3 : AC :=
  (.seq (.reg [⟨(some 2), (.op (.mv (.k (.bool false)))), none⟩])
  (.seq (.reg [⟨(some 8), (.call (.f 7) []), none⟩, ⟨(some 9), (.call (.f 6) [(.t 8)]), none⟩, ⟨(some 3), (.op (.mv (.t 9))), none⟩])
  (.seq (.seq (.reg [⟨(some 10), (.op (.mv (.t 3))), none⟩, ⟨(some 11), (.op (.eq false .ptr (.t 10) (.k (.pointer none)))), none⟩, ⟨(some 12), (.op (.mv (.t 11))), none⟩, ⟨(some 13), (.call (.f 8) []), (some (12, false))⟩, ⟨(some 14), (.op (.un .not (.t 13))), (some (12, false))⟩, ⟨(some 15), (.op (.pick (.t 12) (.k (.bool true)) (.t 14))), none⟩])
  (.cond (.t 15) (.seq (.reg [⟨(some 2), (.op (.mv (.k (.bool false)))), none⟩])
  .ret)
  .skip))
  (.seq (.seq (.reg [⟨(some 4), (.op (.mv (.k (.int .i64 0)))), none⟩])
  (.block 0 (.loop (.seq (.seq (.reg [⟨(some 16), (.op (.mv (.t 4))), none⟩, ⟨(some 17), (.op (.mv (.t 0))), none⟩, ⟨(some 18), (.op (.lenS (.t 17))), none⟩, ⟨(some 19), (.op (.bin .lss (.t 16) (.t 18))), none⟩, ⟨(some 20), (.op (.mv (.t 19))), none⟩, ⟨(some 21), (.op (.mv (.t 4))), (some (20, true))⟩, ⟨(some 22), (.op (.bin .lss (.t 21) (.k (.int .i64 120)))), (some (20, true))⟩, ⟨(some 23), (.op (.pick (.t 20) (.t 22) (.k (.bool false)))), none⟩])
   (.cond (.t 23) .skip
   (.exit 0)))
   (.seq (.block 1 (.seq (.reg [⟨(some 26), (.op (.mv (.t 0))), none⟩, ⟨(some 27), (.op (.mv (.t 4))), none⟩, ⟨(some 28), (.op (.iaddrS 5 (.t 26) (.t 27))), none⟩, ⟨(some 29), (.op (.faddr 0 (.t 28))), none⟩, ⟨(some 30), (.op (.load (.t 29))), none⟩])
   (.block 2 (.seq (.reg [⟨(some 32), (.op (.bin .eql (.t 30) (.k (.int .i64 0)))), none⟩, ⟨(some 31), (.op (.mv (.t 32))), none⟩])
   (.cond (.t 31) (.seq (.reg [⟨(some 34), (.op (.mv (.t 3))), none⟩, ⟨(some 35), (.call (.f 9) [(.t 34), (.k (.int .i64 2))]), none⟩, ⟨(some 33), (.op (.mv (.t 35))), none⟩, ⟨(some 36), (.op (.extract (.t 33) 0)), none⟩, ⟨(some 37), (.op (.extract (.t 33) 1)), none⟩, ⟨(some 5), (.op (.mv (.t 36))), none⟩, ⟨(some 6), (.op (.mv (.t 37))), none⟩])
   (.seq (.reg [⟨(some 38), (.op (.mv (.t 6))), none⟩, ⟨(some 39), (.op (.bin .eql (.t 38) (.k (.int .i64 7)))), none⟩])
   (.cond (.t 39) (.seq (.reg [⟨(some 2), (.op (.mv (.k (.bool false)))), none⟩])
   .ret)
   .skip)))
   (.seq (.reg [⟨(some 41), (.op (.bin .eql (.t 30) (.k (.int .i64 1)))), none⟩, ⟨(some 40), (.op (.mv (.t 41))), none⟩])
   (.cond (.t 40) (.reg [⟨(some 42), (.op (.mv (.t 3))), none⟩, ⟨(some 43), (.op (.mv (.t 0))), none⟩, ⟨(some 44), (.op (.mv (.t 4))), none⟩, ⟨(some 45), (.op (.iaddrS 5 (.t 43) (.t 44))), none⟩, ⟨(some 46), (.op (.faddr 2 (.t 45))), none⟩, ⟨(some 47), (.op (.loadN 3 (.t 46))), none⟩, ⟨(some 48), (.call (.f 10) [(.t 42), (.k (.int .i64 2)), (.t 47)]), none⟩])
   (.seq (.reg [⟨(some 50), (.op (.bin .eql (.t 30) (.k (.int .i64 2)))), none⟩, ⟨(some 49), (.op (.mv (.t 50))), none⟩])
   (.cond (.t 49) (.seq (.reg [⟨(some 51), (.op (.mv (.t 3))), none⟩, ⟨(some 52), (.call (.f 11) [(.t 51), (.k (.int .i64 2))]), none⟩, ⟨(some 7), (.op (.alloc 41 [(.bool false), (.int .u64 0), (.bool false), (.int .i64 0), (.bool false), (.int .u8 0), (.int .i64 0)])), none⟩, ⟨none, (.op (.store 7 (.t 7) (.t 52))), none⟩])
   (.seq (.reg [⟨(some 53), (.op (.faddr 2 (.t 7))), none⟩, ⟨(some 54), (.op (.load (.t 53))), none⟩, ⟨(some 55), (.op (.mv (.t 54))), none⟩, ⟨(some 56), (.op (.faddr 5 (.t 7))), (some (55, false))⟩, ⟨(some 57), (.op (.load (.t 56))), (some (55, false))⟩, ⟨(some 58), (.op (.bin .eql (.t 57) (.k (.int .u8 1)))), (some (55, false))⟩, ⟨(some 59), (.op (.pick (.t 55) (.k (.bool true)) (.t 58))), none⟩])
   (.cond (.t 59) (.seq (.reg [⟨(some 2), (.op (.mv (.k (.bool false)))), none⟩])
   .ret)
   .skip)))
   .skip)))))))))
   (.reg [⟨(some 24), (.op (.mv (.t 4))), none⟩, ⟨(some 25), (.op (.bin .add (.t 24) (.k (.int .i64 1)))), none⟩, ⟨(some 4), (.op (.mv (.t 25))), none⟩]))))))
  (.seq (.reg [⟨(some 2), (.op (.mv (.k (.bool true)))), none⟩])
  .ret)))))
def a3 : AF := ⟨60, [(.t 2)], .code b3, none⟩
theorem ok3 : AFOk Try.prog ext 3 a3 := .of Try.func3 (by kernel_rfl) (by kernel_rfl) (by kernel_rfl) (by kernel_rfl)
/-! 4: rowlock/rowlocklaw11.NorecSame -/
def b4 : AC :=
  (.seq (.reg [⟨(some 4), (.op (.mv (.k (.bool false)))), none⟩])
  (.seq (.reg [⟨(some 13), (.call (.f 7) []), none⟩, ⟨(some 14), (.call (.f 6) [(.t 13)]), none⟩, ⟨(some 5), (.op (.mv (.t 14))), none⟩])
  (.seq (.seq (.reg [⟨(some 15), (.op (.mv (.t 5))), none⟩, ⟨(some 16), (.op (.eq false .ptr (.t 15) (.k (.pointer none)))), none⟩, ⟨(some 17), (.op (.mv (.t 16))), none⟩, ⟨(some 18), (.call (.f 8) []), (some (17, false))⟩, ⟨(some 19), (.op (.un .not (.t 18))), (some (17, false))⟩, ⟨(some 20), (.op (.pick (.t 17) (.k (.bool true)) (.t 19))), none⟩])
  (.cond (.t 20) (.seq (.reg [⟨(some 4), (.op (.mv (.k (.bool false)))), none⟩])
  .ret)
  .skip))
  (.seq (.reg [⟨(some 21), (.op (.mv (.t 0))), none⟩, ⟨(some 22), (.op (.conv (.int .i64) (.t 21))), none⟩, ⟨(some 23), (.op (.bin .rem (.t 22) (.k (.int .i64 5)))), none⟩, ⟨(some 6), (.op (.mv (.t 23))), none⟩])
  (.seq (.seq (.reg [⟨(some 25), (.op (.mv (.t 5))), none⟩, ⟨(some 26), (.call (.f 9) [(.t 25), (.k (.int .i64 0))]), none⟩, ⟨(some 24), (.op (.mv (.t 26))), none⟩, ⟨(some 27), (.op (.extract (.t 24) 0)), none⟩, ⟨(some 28), (.op (.extract (.t 24) 1)), none⟩, ⟨(some 7), (.op (.mv (.t 27))), none⟩, ⟨(some 8), (.op (.mv (.t 28))), none⟩])
  (.seq (.reg [⟨(some 29), (.op (.mv (.t 8))), none⟩, ⟨(some 30), (.op (.bin .neq (.t 29) (.k (.int .i64 0)))), none⟩])
  (.cond (.t 30) (.seq (.reg [⟨(some 4), (.op (.mv (.k (.bool false)))), none⟩])
  .ret)
  .skip)))
  (.seq (.seq (.reg [⟨(some 9), (.op (.mv (.k (.int .i64 0)))), none⟩])
  (.block 0 (.loop (.seq (.seq (.reg [⟨(some 31), (.op (.mv (.t 9))), none⟩, ⟨(some 32), (.op (.mv (.t 1))), none⟩, ⟨(some 33), (.op (.conv (.int .i64) (.t 32))), none⟩, ⟨(some 34), (.op (.bin .rem (.t 33) (.k (.int .i64 6)))), none⟩, ⟨(some 35), (.op (.bin .lss (.t 31) (.t 34))), none⟩])
   (.cond (.t 35) .skip
   (.exit 0)))
   (.seq (.block 1 (.seq (.reg [⟨(some 38), (.op (.mv (.t 5))), none⟩, ⟨(some 39), (.call (.f 9) [(.t 38), (.k (.int .i64 1))]), none⟩])
   (.seq (.reg [⟨(some 40), (.op (.mv (.t 5))), none⟩, ⟨(some 41), (.op (.mv (.t 6))), none⟩, ⟨(some 42), (.call (.f 7) []), none⟩, ⟨(some 43), (.op (.mv (.t 6))), none⟩, ⟨(some 44), (.op (.iaddrS 1 (.t 42) (.t 43))), none⟩, ⟨(some 45), (.op (.load (.t 44))), none⟩, ⟨(some 46), (.op (.build [(.int .u8 0), (.int .i64 0), (.int .u64 0)] [(0, 1, (.k (.int .u8 2))), (1, 1, (.t 41)), (2, 1, (.t 45))])), none⟩, ⟨(some 47), (.call (.f 10) [(.t 40), (.k (.int .i64 1)), (.t 46)]), none⟩])
   (.seq (.reg [⟨(some 48), (.op (.mv (.t 5))), none⟩, ⟨(some 49), (.call (.f 11) [(.t 48), (.k (.int .i64 1))]), none⟩])
   (.seq (.reg [⟨(some 50), (.op (.mv (.t 5))), none⟩, ⟨(some 51), (.op (.build [(.int .u8 0), (.int .i64 0), (.int .u64 0)] [(0, 1, (.k (.int .u8 6)))])), none⟩, ⟨(some 52), (.call (.f 10) [(.t 50), (.k (.int .i64 1)), (.t 51)]), none⟩])
   (.seq (.seq (.reg [⟨(some 10), (.op (.mv (.k (.int .i64 0)))), none⟩])
   (.block 2 (.loop (.seq (.seq (.reg [⟨(some 53), (.op (.mv (.t 10))), none⟩, ⟨(some 54), (.op (.bin .lss (.t 53) (.k (.int .i64 10)))), none⟩])
    (.cond (.t 54) .skip
    (.exit 2)))
    (.seq (.block 3 (.reg [⟨(some 57), (.op (.mv (.t 5))), none⟩, ⟨(some 58), (.call (.f 11) [(.t 57), (.k (.int .i64 1))]), none⟩]))
    (.reg [⟨(some 55), (.op (.mv (.t 10))), none⟩, ⟨(some 56), (.op (.bin .add (.t 55) (.k (.int .i64 1)))), none⟩, ⟨(some 10), (.op (.mv (.t 56))), none⟩]))))))
   (.seq (.seq (.reg [⟨(some 59), (.op (.mv (.t 5))), none⟩, ⟨(some 60), (.op (.mv (.t 6))), none⟩, ⟨(some 61), (.op (.build [(.int .u8 0), (.int .i64 0), (.int .u64 0)] [(0, 1, (.k (.int .u8 1))), (1, 1, (.t 60))])), none⟩, ⟨(some 62), (.call (.f 10) [(.t 59), (.k (.int .i64 0)), (.t 61)]), none⟩, ⟨(some 63), (.op (.bin .neq (.t 62) (.k (.int .i64 0)))), none⟩])
   (.cond (.t 63) (.seq (.reg [⟨(some 4), (.op (.mv (.k (.bool false)))), none⟩])
   .ret)
   .skip))
   (.seq (.reg [⟨(some 64), (.op (.mv (.t 5))), none⟩, ⟨(some 65), (.call (.f 11) [(.t 64), (.k (.int .i64 0))]), none⟩, ⟨(some 11), (.op (.alloc 41 [(.bool false), (.int .u64 0), (.bool false), (.int .i64 0), (.bool false), (.int .u8 0), (.int .i64 0)])), none⟩, ⟨none, (.op (.store 7 (.t 11) (.t 65))), none⟩])
   (.seq (.seq (.reg [⟨(some 12), (.op (.mv (.k (.int .i64 0)))), none⟩])
   (.block 4 (.loop (.seq (.seq (.reg [⟨(some 66), (.op (.mv (.t 12))), none⟩, ⟨(some 67), (.op (.bin .lss (.t 66) (.k (.int .i64 20)))), none⟩, ⟨(some 68), (.op (.mv (.t 67))), none⟩, ⟨(some 69), (.op (.faddr 0 (.t 11))), (some (68, true))⟩, ⟨(some 70), (.op (.load (.t 69))), (some (68, true))⟩, ⟨(some 71), (.op (.un .not (.t 70))), (some (68, true))⟩, ⟨(some 72), (.op (.pick (.t 68) (.t 71) (.k (.bool false)))), none⟩])
    (.cond (.t 72) .skip
    (.exit 4)))
    (.seq (.block 5 (.reg [⟨(some 75), (.op (.mv (.t 5))), none⟩, ⟨(some 76), (.call (.f 11) [(.t 75), (.k (.int .i64 0))]), none⟩, ⟨none, (.op (.store 7 (.t 11) (.t 76))), none⟩]))
    (.reg [⟨(some 73), (.op (.mv (.t 12))), none⟩, ⟨(some 74), (.op (.bin .add (.t 73) (.k (.int .i64 1)))), none⟩, ⟨(some 12), (.op (.mv (.t 74))), none⟩]))))))
   (.seq (.dreg (.quiet ⟨(some 77), (.op (.faddr 0 (.t 11))), none⟩ (.quiet ⟨(some 78), (.op (.load (.t 77))), none⟩ (.quiet ⟨(some 79), (.op (.un .not (.t 78))), none⟩ (.quiet ⟨(some 80), (.op (.mv (.t 79))), none⟩ (.quiet ⟨(some 81), (.op (.faddr 4 (.t 11))), (some (80, false))⟩ (.quiet ⟨(some 82), (.op (.load (.t 81))), (some (80, false))⟩ (.quiet ⟨(some 83), (.op (.pick (.t 80) (.k (.bool true)) (.t 82))), none⟩ (.quiet ⟨(some 84), (.op (.mv (.t 83))), none⟩ (.quiet ⟨(some 85), (.op (.faddr 1 (.t 11))), (some (84, false))⟩ (.quiet ⟨(some 86), (.op (.load (.t 85))), (some (84, false))⟩ (.quiet ⟨(some 88), (.op (.mv (.t 6))), (some (84, false))⟩ (.loud ⟨(some 87), (.call (.f 7) []), (some (84, false))⟩ [⟨(some 86), (.op (.load (.t 85))), (some (84, false))⟩] (.quiet ⟨(some 89), (.op (.iaddrS 1 (.t 87) (.t 88))), (some (84, false))⟩ (.quiet ⟨(some 90), (.op (.load (.t 89))), (some (84, false))⟩ (.quiet ⟨(some 91), (.op (.bin .neq (.t 86) (.t 90))), (some (84, false))⟩ (.quiet ⟨(some 92), (.op (.pick (.t 84) (.k (.bool true)) (.t 91))), none⟩ .nil)))))))))))))))))
   (.cond (.t 92) (.seq (.reg [⟨(some 4), (.op (.mv (.k (.bool false)))), none⟩])
   .ret)
   .skip)))))))))))
   (.reg [⟨(some 36), (.op (.mv (.t 9))), none⟩, ⟨(some 37), (.op (.bin .add (.t 36) (.k (.int .i64 1)))), none⟩, ⟨(some 9), (.op (.mv (.t 37))), none⟩]))))))
  (.seq (.reg [⟨(some 93), (.op (.mv (.t 1))), none⟩, ⟨(some 94), (.op (.conv (.int .i64) (.t 93))), none⟩, ⟨(some 95), (.op (.bin .rem (.t 94) (.k (.int .i64 6)))), none⟩, ⟨(some 96), (.op (.bin .eql (.t 95) (.k (.int .i64 0)))), none⟩, ⟨(some 97), (.op (.mv (.t 96))), none⟩, ⟨(some 98), (.op (.mv (.t 5))), (some (97, false))⟩, ⟨(some 99), (.call (.f 12) [(.t 98)]), (some (97, false))⟩, ⟨(some 100), (.op (.mv (.t 1))), (some (97, false))⟩, ⟨(some 101), (.op (.bin .rem (.t 100) (.k (.int .u8 6)))), (some (97, false))⟩, ⟨(some 102), (.op (.conv (.int .u64) (.t 101))), (some (97, false))⟩, ⟨(some 103), (.op (.bin .mul (.k (.int .u64 2)) (.t 102))), (some (97, false))⟩, ⟨(some 104), (.op (.bin .eql (.t 99) (.t 103))), (some (97, false))⟩, ⟨(some 105), (.op (.pick (.t 97) (.k (.bool true)) (.t 104))), none⟩, ⟨(some 4), (.op (.mv (.t 105))), none⟩])
  .ret)))))))
def a4 : AF := ⟨106, [(.t 4)], .code b4, none⟩
theorem ok4 : AFOk Try.prog ext 4 a4 := .of Try.func4 (by kernel_rfl) (by kernel_rfl) (by kernel_rfl) (by kernel_rfl)
/-! 5: rowlock/rowlocklaw11.NorecGone -/
def b5 : AC :=
  (.seq (.reg [⟨(some 4), (.op (.mv (.k (.bool false)))), none⟩])
  (.seq (.reg [⟨(some 14), (.op (.mv (.t 0))), none⟩, ⟨(some 15), (.call (.f 13) [(.t 14)]), none⟩, ⟨(some 5), (.op (.mv (.t 15))), none⟩])
  (.seq (.seq (.reg [⟨(some 16), (.call (.f 8) []), none⟩, ⟨(some 17), (.op (.un .not (.t 16))), none⟩, ⟨(some 18), (.op (.mv (.t 17))), none⟩, ⟨(some 19), (.op (.mv (.t 5))), (some (18, false))⟩, ⟨(some 20), (.op (.eq false .ptr (.t 19) (.k (.pointer none)))), (some (18, false))⟩, ⟨(some 21), (.op (.pick (.t 18) (.k (.bool true)) (.t 20))), none⟩])
  (.cond (.t 21) (.seq (.reg [⟨(some 4), (.op (.mv (.k (.bool false)))), none⟩])
  .ret)
  .skip))
  (.seq (.reg [⟨(some 22), (.op (.mv (.t 1))), none⟩, ⟨(some 23), (.op (.conv (.int .i64) (.t 22))), none⟩, ⟨(some 24), (.op (.bin .rem (.t 23) (.k (.int .i64 4)))), none⟩, ⟨(some 6), (.op (.mv (.t 24))), none⟩])
  (.seq (.reg [⟨(some 26), (.op (.mv (.t 5))), none⟩, ⟨(some 27), (.op (.mv (.t 6))), none⟩, ⟨(some 28), (.call (.f 14) [(.t 26), (.t 27)]), none⟩, ⟨(some 25), (.op (.mv (.t 28))), none⟩, ⟨(some 29), (.op (.extract (.t 25) 0)), none⟩, ⟨(some 30), (.op (.extract (.t 25) 1)), none⟩, ⟨(some 7), (.op (.mv (.t 29))), none⟩, ⟨(some 8), (.op (.mv (.t 30))), none⟩])
  (.seq (.reg [⟨(some 31), (.op (.mv (.t 5))), none⟩, ⟨(some 32), (.call (.f 15) [(.t 31)]), none⟩, ⟨(some 9), (.op (.mv (.t 32))), none⟩])
  (.seq (.reg [⟨(some 33), (.op (.mv (.t 5))), none⟩, ⟨(some 34), (.op (.mv (.t 6))), none⟩, ⟨(some 35), (.call (.f 16) [(.t 33), (.t 34)]), none⟩, ⟨(some 10), (.op (.mv (.t 35))), none⟩])
  (.seq (.reg [⟨(some 36), (.op (.mv (.t 5))), none⟩, ⟨(some 37), (.op (.mv (.t 6))), none⟩, ⟨(some 38), (.call (.f 17) [(.t 36), (.t 37)]), none⟩, ⟨(some 11), (.op (.mv (.t 38))), none⟩])
  (.seq (.seq (.reg [⟨(some 39), (.op (.mv (.t 11))), none⟩, ⟨(some 40), (.op (.bin .neq (.t 39) (.k (.int .i64 0)))), none⟩])
  (.cond (.t 40) (.seq (.reg [⟨(some 41), (.op (.mv (.t 11))), none⟩, ⟨(some 42), (.op (.bin .eql (.t 41) (.k (.int .i64 8)))), none⟩, ⟨(some 43), (.op (.mv (.t 42))), none⟩, ⟨(some 44), (.op (.mv (.t 8))), (some (43, true))⟩, ⟨(some 45), (.op (.un .not (.t 44))), (some (43, true))⟩, ⟨(some 46), (.op (.mv (.t 45))), (some (43, true))⟩, ⟨(some 47), (.op (.mv (.t 10))), (some (46, false))⟩, ⟨(some 48), (.op (.pick (.t 46) (.k (.bool true)) (.t 47))), (some (43, true))⟩, ⟨(some 49), (.op (.pick (.t 43) (.t 48) (.k (.bool false)))), none⟩, ⟨(some 4), (.op (.mv (.t 49))), none⟩])
  .ret)
  .skip))
  (.seq (.reg [⟨(some 51), (.op (.mv (.t 5))), none⟩, ⟨(some 52), (.op (.mv (.t 6))), none⟩, ⟨(some 53), (.call (.f 14) [(.t 51), (.t 52)]), none⟩, ⟨(some 50), (.op (.mv (.t 53))), none⟩, ⟨(some 54), (.op (.extract (.t 50) 0)), none⟩, ⟨(some 55), (.op (.extract (.t 50) 1)), none⟩, ⟨(some 12), (.op (.mv (.t 54))), none⟩, ⟨(some 13), (.op (.mv (.t 55))), none⟩])
  (.seq (.reg [⟨(some 56), (.op (.mv (.t 8))), none⟩, ⟨(some 57), (.op (.mv (.t 56))), none⟩, ⟨(some 58), (.op (.mv (.t 13))), (some (57, true))⟩, ⟨(some 59), (.op (.un .not (.t 58))), (some (57, true))⟩, ⟨(some 60), (.op (.pick (.t 57) (.t 59) (.k (.bool false)))), none⟩, ⟨(some 61), (.op (.mv (.t 60))), none⟩, ⟨(some 62), (.op (.mv (.t 10))), (some (61, true))⟩, ⟨(some 63), (.op (.un .not (.t 62))), (some (61, true))⟩, ⟨(some 64), (.op (.pick (.t 61) (.t 63) (.k (.bool false)))), none⟩, ⟨(some 65), (.op (.mv (.t 64))), none⟩, ⟨(some 66), (.op (.mv (.t 5))), (some (65, true))⟩, ⟨(some 67), (.op (.mv (.t 6))), (some (65, true))⟩, ⟨(some 68), (.call (.f 16) [(.t 66), (.t 67)]), (some (65, true))⟩, ⟨(some 69), (.op (.un .not (.t 68))), (some (65, true))⟩, ⟨(some 70), (.op (.pick (.t 65) (.t 69) (.k (.bool false)))), none⟩, ⟨(some 71), (.op (.mv (.t 70))), none⟩, ⟨(some 72), (.op (.mv (.t 5))), (some (71, true))⟩, ⟨(some 73), (.call (.f 15) [(.t 72)]), (some (71, true))⟩, ⟨(some 74), (.op (.mv (.t 9))), (some (71, true))⟩, ⟨(some 75), (.call (.f 18) [(.t 73), (.t 74)]), (some (71, true))⟩, ⟨(some 76), (.op (.pick (.t 71) (.t 75) (.k (.bool false)))), none⟩, ⟨(some 77), (.op (.mv (.t 76))), none⟩, ⟨(some 78), (.op (.mv (.t 5))), (some (77, true))⟩, ⟨(some 79), (.op (.mv (.t 7))), (some (77, true))⟩, ⟨(some 80), (.call (.f 19) [(.t 78), (.t 79)]), (some (77, true))⟩, ⟨(some 81), (.op (.bin .eql (.t 80) (.k (.int .u8 3)))), (some (77, true))⟩, ⟨(some 82), (.op (.pick (.t 77) (.t 81) (.k (.bool false)))), none⟩, ⟨(some 4), (.op (.mv (.t 82))), none⟩])
  .ret)))))))))))
def a5 : AF := ⟨83, [(.t 4)], .code b5, none⟩
theorem ok5 : AFOk Try.prog ext 5 a5 := .of Try.func5 (by kernel_rfl) (by kernel_rfl) (by kernel_rfl) (by kernel_rfl)
/-! 6: rowlock/norec.New -/
def b6 : AC :=
  (.seq (.reg [⟨(some 2), (.op (.mv (.k (.pointer none)))), none⟩])
  (.seq (.seq (.reg [⟨(some 5), (.op (.mv (.t 0))), none⟩, ⟨(some 6), (.op (.lenS (.t 5))), none⟩, ⟨(some 7), (.op (.bin .lss (.t 6) (.k (.int .i64 1)))), none⟩, ⟨(some 8), (.op (.mv (.t 7))), none⟩, ⟨(some 9), (.op (.mv (.t 0))), (some (8, false))⟩, ⟨(some 10), (.op (.lenS (.t 9))), (some (8, false))⟩, ⟨(some 11), (.op (.bin .gtr (.t 10) (.k (.int .i64 12)))), (some (8, false))⟩, ⟨(some 12), (.op (.pick (.t 8) (.k (.bool true)) (.t 11))), none⟩])
  (.cond (.t 12) (.seq (.reg [⟨(some 2), (.op (.mv (.k (.pointer none)))), none⟩])
  .ret)
  .skip))
  (.seq (.seq (.reg [⟨(some 13), (.op (.mv (.t 0))), none⟩, ⟨(some 14), (.op (.lenS (.t 13))), none⟩, ⟨(some 15), (.op (.mv (.k (.int .i64 0)))), none⟩])
  (.block 0 (.loop (.seq (.reg [⟨(some 16), (.op (.bin .lss (.t 15) (.t 14))), none⟩])
   (.seq (.cond (.t 16) .skip
   (.exit 0))
   (.seq (.block 1 (.seq (.reg [⟨(some 17), (.op (.iaddrS 1 (.t 13) (.t 15))), none⟩, ⟨(some 18), (.op (.load (.t 17))), none⟩, ⟨(some 4), (.op (.mv (.t 18))), none⟩])
   (.seq (.reg [⟨(some 19), (.op (.mv (.t 4))), none⟩, ⟨(some 20), (.call (.f 20) [(.t 19)]), none⟩, ⟨(some 21), (.op (.un .not (.t 20))), none⟩])
   (.cond (.t 21) (.seq (.reg [⟨(some 2), (.op (.mv (.k (.pointer none)))), none⟩])
   .ret)
   .skip))))
   (.reg [⟨(some 22), (.op (.bin .add (.t 15) (.k (.int .i64 1)))), none⟩, ⟨(some 15), (.op (.mv (.t 22))), none⟩])))))))
  (.seq (.reg [⟨(some 23), (.call (.f 21) []), none⟩, ⟨(some 24), (.op (.mv (.t 0))), none⟩, ⟨(some 25), (.call (.f 22) [(.t 24)]), none⟩, ⟨(some 26), (.op (.mkmap)), none⟩, ⟨(some 27), (.op (.build [(.pointer none), (.slice none 0 0), (.map none), (.slice none 0 0), (.slice none 0 0), (.slice none 0 0)] [(0, 1, (.t 23)), (1, 1, (.t 25)), (2, 1, (.t 26))])), none⟩, ⟨(some 28), (.op (.box 63 (.t 27))), none⟩, ⟨(some 2), (.op (.mv (.t 28))), none⟩])
  .ret))))
def a6 : AF := ⟨29, [(.t 2)], .code b6, none⟩
theorem ok6 : AFOk Try.prog ext 6 a6 := .of Try.func6 (by kernel_rfl) (by kernel_rfl) (by kernel_rfl) (by kernel_rfl)
/-! 7: rowlock/rowlocklaw11.first -/
def b7 : AC :=
  (.seq (.reg [⟨(some 0), (.op (.mv (.k (.slice none 0 0)))), none⟩])
  (.seq (.reg [⟨(some 1), (.op (.bslice 30 [(.int .u64 0), (.int .u64 0), (.int .u64 0), (.int .u64 0), (.int .u64 0)] 5 [(0, 1, (.k (.int .u64 0))), (1, 1, (.k (.int .u64 4607182418800017408))), (2, 1, (.k (.int .u64 9221120237041090560))), (3, 1, (.k (.int .u64 9223372036854775808))), (4, 1, (.k (.int .u64 0)))])), none⟩, ⟨(some 0), (.op (.mv (.t 1))), none⟩])
  .ret))
def a7 : AF := ⟨2, [(.t 0)], .code b7, none⟩
theorem ok7 : AFOk Try.prog ext 7 a7 := .of Try.func7 (by kernel_rfl) (by kernel_rfl) (by kernel_rfl) (by kernel_rfl)
/-! 8: rowlock/rowlocklaw11.live -/
def b8 : AC :=
  (.seq (.reg [⟨(some 0), (.op (.mv (.k (.bool false)))), none⟩])
  (.seq (.reg [⟨(some 8), (.call (.f 7) []), none⟩, ⟨(some 9), (.call (.f 6) [(.t 8)]), none⟩, ⟨(some 1), (.op (.mv (.t 9))), none⟩])
  (.seq (.reg [⟨(some 11), (.op (.mv (.t 1))), none⟩, ⟨(some 12), (.call (.f 9) [(.t 11), (.k (.int .i64 1))]), none⟩, ⟨(some 10), (.op (.mv (.t 12))), none⟩, ⟨(some 13), (.op (.extract (.t 10) 0)), none⟩, ⟨(some 14), (.op (.extract (.t 10) 1)), none⟩, ⟨(some 2), (.op (.mv (.t 13))), none⟩, ⟨(some 3), (.op (.mv (.t 14))), none⟩])
  (.seq (.reg [⟨(some 15), (.op (.mv (.t 1))), none⟩, ⟨(some 16), (.op (.build [(.int .u8 0), (.int .i64 0), (.int .u64 0)] [(0, 1, (.k (.int .u8 1))), (1, 1, (.k (.int .i64 1)))])), none⟩, ⟨(some 17), (.call (.f 10) [(.t 15), (.k (.int .i64 1)), (.t 16)]), none⟩, ⟨(some 4), (.op (.mv (.t 17))), none⟩])
  (.seq (.reg [⟨(some 18), (.op (.mv (.t 1))), none⟩, ⟨(some 19), (.call (.f 11) [(.t 18), (.k (.int .i64 1))]), none⟩])
  (.seq (.reg [⟨(some 20), (.op (.mv (.t 1))), none⟩, ⟨(some 21), (.call (.f 11) [(.t 20), (.k (.int .i64 1))]), none⟩, ⟨(some 5), (.op (.alloc 41 [(.bool false), (.int .u64 0), (.bool false), (.int .i64 0), (.bool false), (.int .u8 0), (.int .i64 0)])), none⟩, ⟨none, (.op (.store 7 (.t 5) (.t 21))), none⟩])
  (.seq (.reg [⟨(some 22), (.op (.mv (.t 1))), none⟩, ⟨(some 23), (.op (.build [(.int .u8 0), (.int .i64 0), (.int .u64 0)] [(0, 1, (.k (.int .u8 6)))])), none⟩, ⟨(some 24), (.call (.f 10) [(.t 22), (.k (.int .i64 1)), (.t 23)]), none⟩, ⟨(some 6), (.op (.mv (.t 24))), none⟩])
  (.seq (.reg [⟨(some 25), (.op (.mv (.t 1))), none⟩, ⟨(some 26), (.call (.f 11) [(.t 25), (.k (.int .i64 1))]), none⟩, ⟨(some 7), (.op (.alloc 41 [(.bool false), (.int .u64 0), (.bool false), (.int .i64 0), (.bool false), (.int .u8 0), (.int .i64 0)])), none⟩, ⟨none, (.op (.store 7 (.t 7) (.t 26))), none⟩])
  (.seq (.reg [⟨(some 27), (.op (.mv (.t 2))), none⟩, ⟨(some 28), (.op (.bin .eql (.t 27) (.k (.int .i64 0)))), none⟩, ⟨(some 29), (.op (.mv (.t 28))), none⟩, ⟨(some 30), (.op (.mv (.t 3))), (some (29, true))⟩, ⟨(some 31), (.op (.bin .eql (.t 30) (.k (.int .i64 0)))), (some (29, true))⟩, ⟨(some 32), (.op (.pick (.t 29) (.t 31) (.k (.bool false)))), none⟩, ⟨(some 33), (.op (.mv (.t 32))), none⟩, ⟨(some 34), (.op (.mv (.t 4))), (some (33, true))⟩, ⟨(some 35), (.op (.bin .eql (.t 34) (.k (.int .i64 0)))), (some (33, true))⟩, ⟨(some 36), (.op (.pick (.t 33) (.t 35) (.k (.bool false)))), none⟩, ⟨(some 37), (.op (.mv (.t 36))), none⟩, ⟨(some 38), (.op (.mv (.t 6))), (some (37, true))⟩, ⟨(some 39), (.op (.bin .eql (.t 38) (.k (.int .i64 0)))), (some (37, true))⟩, ⟨(some 40), (.op (.pick (.t 37) (.t 39) (.k (.bool false)))), none⟩, ⟨(some 41), (.op (.mv (.t 40))), none⟩, ⟨(some 42), (.op (.faddr 0 (.t 5))), (some (41, true))⟩, ⟨(some 43), (.op (.load (.t 42))), (some (41, true))⟩, ⟨(some 44), (.op (.pick (.t 41) (.t 43) (.k (.bool false)))), none⟩, ⟨(some 45), (.op (.mv (.t 44))), none⟩, ⟨(some 46), (.op (.faddr 1 (.t 5))), (some (45, true))⟩, ⟨(some 47), (.op (.load (.t 46))), (some (45, true))⟩, ⟨(some 48), (.op (.bin .eql (.t 47) (.k (.int .u64 4607182418800017408)))), (some (45, true))⟩, ⟨(some 49), (.op (.pick (.t 45) (.t 48) (.k (.bool false)))), none⟩, ⟨(some 50), (.op (.mv (.t 49))), none⟩, ⟨(some 51), (.op (.faddr 4 (.t 7))), (some (50, true))⟩, ⟨(some 52), (.op (.load (.t 51))), (some (50, true))⟩, ⟨(some 53), (.op (.pick (.t 50) (.t 52) (.k (.bool false)))), none⟩, ⟨(some 54), (.op (.mv (.t 53))), none⟩, ⟨(some 55), (.op (.faddr 5 (.t 7))), (some (54, true))⟩, ⟨(some 56), (.op (.load (.t 55))), (some (54, true))⟩, ⟨(some 57), (.op (.bin .eql (.t 56) (.k (.int .u8 0)))), (some (54, true))⟩, ⟨(some 58), (.op (.pick (.t 54) (.t 57) (.k (.bool false)))), none⟩, ⟨(some 59), (.op (.mv (.t 58))), none⟩, ⟨(some 60), (.op (.mv (.t 1))), (some (59, true))⟩, ⟨(some 61), (.call (.f 23) [(.t 60)]), (some (59, true))⟩, ⟨(some 62), (.op (.lenS (.t 61))), (some (59, true))⟩, ⟨(some 63), (.op (.bin .eql (.t 62) (.k (.int .i64 4)))), (some (59, true))⟩, ⟨(some 64), (.op (.pick (.t 59) (.t 63) (.k (.bool false)))), none⟩, ⟨(some 0), (.op (.mv (.t 64))), none⟩])
  .ret)))))))))
def a8 : AF := ⟨65, [(.t 0)], .code b8, none⟩
theorem ok8 : AFOk Try.prog ext 8 a8 := .of Try.func8 (by kernel_rfl) (by kernel_rfl) (by kernel_rfl) (by kernel_rfl)
/-! 9: (*rowlock/norec.Engine).Begin -/
def b9 : AC :=
  (.seq (.reg [⟨(some 4), (.op (.mv (.k (.int .i64 0)))), none⟩, ⟨(some 5), (.op (.mv (.k (.int .i64 0)))), none⟩])
  (.seq (.seq (.reg [⟨(some 10), (.op (.mv (.t 0))), none⟩, ⟨(some 11), (.op (.mv (.t 1))), none⟩, ⟨(some 12), (.call (.f 24) [(.t 10), (.t 11)]), none⟩, ⟨(some 6), (.op (.mv (.t 12))), none⟩])
  (.seq (.reg [⟨(some 13), (.op (.mv (.t 6))), none⟩, ⟨(some 14), (.op (.bin .neq (.t 13) (.k (.int .i64 0)))), none⟩])
  (.cond (.t 14) (.seq (.reg [⟨(some 15), (.op (.mv (.t 6))), none⟩, ⟨(some 4), (.op (.mv (.k (.int .i64 0)))), none⟩, ⟨(some 5), (.op (.mv (.t 15))), none⟩])
  .ret)
  .skip)))
  (.seq (.reg [⟨(some 16), (.op (.mv (.t 0))), none⟩, ⟨(some 17), (.op (.nilchk (.t 16))), none⟩, ⟨(some 18), (.op (.faddr 4 (.t 17))), none⟩, ⟨(some 19), (.op (.load (.t 18))), none⟩, ⟨(some 20), (.op (.lenS (.t 19))), none⟩, ⟨(some 7), (.op (.mv (.t 20))), none⟩])
  (.seq (.block 0 (.seq (.reg [⟨(some 22), (.op (.mv (.t 0))), none⟩, ⟨(some 23), (.op (.nilchk (.t 22))), none⟩, ⟨(some 24), (.op (.faddr 2 (.t 23))), none⟩, ⟨(some 25), (.op (.load (.t 24))), none⟩, ⟨(some 26), (.op (.mv (.t 1))), none⟩, ⟨(some 27), (.op (.lookup false (.pointer none) false (.t 25) (.t 26))), none⟩, ⟨(some 28), (.op (.eq true .ptr (.t 27) (.k (.pointer none)))), none⟩, ⟨(some 21), (.op (.mv (.t 28))), none⟩])
  (.cond (.t 21) (.seq (.reg [⟨(some 4), (.op (.mv (.k (.int .i64 0)))), none⟩, ⟨(some 5), (.op (.mv (.k (.int .i64 8)))), none⟩])
  .ret)
  (.seq (.reg [⟨(some 30), (.op (.mv (.t 7))), none⟩, ⟨(some 31), (.op (.bin .geq (.t 30) (.k (.int .i64 64)))), none⟩, ⟨(some 29), (.op (.mv (.t 31))), none⟩])
  (.cond (.t 29) (.seq (.reg [⟨(some 4), (.op (.mv (.k (.int .i64 0)))), none⟩, ⟨(some 5), (.op (.mv (.k (.int .i64 4)))), none⟩])
  .ret)
  .skip)))))
  (.seq (.reg [⟨(some 33), (.op (.mv (.t 0))), none⟩, ⟨(some 34), (.op (.nilchk (.t 33))), none⟩, ⟨(some 35), (.op (.faddr 0 (.t 34))), none⟩, ⟨(some 36), (.op (.load (.t 35))), none⟩, ⟨(some 37), (.call (.f 25) [(.t 36)]), none⟩, ⟨(some 32), (.op (.mv (.t 37))), none⟩, ⟨(some 38), (.op (.extract (.t 32) 0)), none⟩, ⟨(some 39), (.op (.extract (.t 32) 1)), none⟩, ⟨(some 8), (.op (.mv (.t 38))), none⟩, ⟨(some 9), (.op (.mv (.t 39))), none⟩])
  (.seq (.seq (.reg [⟨(some 40), (.op (.mv (.t 9))), none⟩, ⟨(some 41), (.op (.bin .neq (.t 40) (.k (.int .i64 0)))), none⟩])
  (.cond (.t 41) (.seq (.reg [⟨(some 42), (.op (.mv (.t 9))), none⟩, ⟨(some 4), (.op (.mv (.k (.int .i64 0)))), none⟩, ⟨(some 5), (.op (.mv (.t 42))), none⟩])
  .ret)
  .skip))
  (.seq (.dreg (.quiet ⟨(some 43), (.op (.mv (.t 0))), none⟩ (.quiet ⟨(some 44), (.op (.nilchk (.t 43))), none⟩ (.quiet ⟨(some 45), (.op (.faddr 2 (.t 44))), none⟩ (.quiet ⟨(some 46), (.op (.load (.t 45))), none⟩ (.quiet ⟨(some 47), (.op (.mv (.t 1))), none⟩ (.quiet ⟨(some 50), (.op (.mv (.t 7))), none⟩ (.quiet ⟨(some 51), (.op (.mv (.t 8))), none⟩ (.loud ⟨(some 48), (.call (.f 26) []), none⟩ [⟨(some 46), (.op (.load (.t 45))), none⟩] (.loud ⟨(some 49), (.call (.f 27) []), none⟩ [⟨(some 46), (.op (.load (.t 45))), none⟩] (.quiet ⟨(some 52), (.op (.build [(.pointer none), (.pointer none), (.int .i64 0), (.int .u64 0), (.int .u8 0), (.int .i64 0), (.int .u64 0), (.int .i64 0), (.int .i64 0), (.int .i64 0), (.int .u64 0), (.int .u64 0), (.bool false)] [(0, 1, (.t 48)), (1, 1, (.t 49)), (2, 1, (.t 50)), (3, 1, (.t 51))])), none⟩ (.loud ⟨(some 53), (.op (.box 74 (.t 52))), none⟩ [⟨(some 46), (.op (.load (.t 45))), none⟩] (.loud ⟨none, (.op (.mapupd false (.t 46) (.t 47) (.t 53))), none⟩ [] .nil)))))))))))))
  (.seq (.reg [⟨(some 54), (.op (.mv (.t 0))), none⟩, ⟨(some 55), (.op (.mv (.t 0))), none⟩, ⟨(some 56), (.op (.nilchk (.t 55))), none⟩, ⟨(some 57), (.op (.faddr 4 (.t 56))), none⟩, ⟨(some 58), (.op (.load (.t 57))), none⟩, ⟨(some 59), (.op (.mv (.t 8))), none⟩, ⟨(some 60), (.op (.bin .add (.t 59) (.k (.int .u64 1)))), none⟩, ⟨(some 61), (.op (.bslice 29 [(.int .u64 0)] 1 [(0, 1, (.t 60))])), none⟩, ⟨(some 62), (.op (.append 29 1 8 (.t 58) (.t 61))), none⟩, ⟨(some 63), (.op (.nilchk (.t 54))), none⟩, ⟨(some 64), (.op (.faddr 4 (.t 63))), none⟩, ⟨none, (.op (.store 1 (.t 64) (.t 62))), none⟩])
  (.seq (.reg [⟨(some 65), (.op (.mv (.t 0))), none⟩, ⟨(some 66), (.op (.mv (.t 0))), none⟩, ⟨(some 67), (.op (.nilchk (.t 66))), none⟩, ⟨(some 68), (.op (.faddr 5 (.t 67))), none⟩, ⟨(some 69), (.op (.load (.t 68))), none⟩, ⟨(some 70), (.op (.bslice 39 [(.int .u8 0)] 1 [(0, 1, (.k (.int .u8 0)))])), none⟩, ⟨(some 71), (.op (.append 39 1 1 (.t 69) (.t 70))), none⟩, ⟨(some 72), (.op (.nilchk (.t 65))), none⟩, ⟨(some 73), (.op (.faddr 5 (.t 72))), none⟩, ⟨none, (.op (.store 1 (.t 73) (.t 71))), none⟩])
  (.seq (.reg [⟨(some 74), (.op (.mv (.t 0))), none⟩, ⟨(some 75), (.op (.mv (.t 7))), none⟩, ⟨(some 76), (.op (.build [(.int .u8 0), (.int .i64 0), (.int .i64 0), (.int .u64 0)] [(0, 1, (.k (.int .u8 1))), (1, 1, (.t 75))])), none⟩, ⟨(some 77), (.call (.f 28) [(.t 74), (.t 76)]), none⟩])
  (.seq (.reg [⟨(some 78), (.op (.mv (.t 7))), none⟩, ⟨(some 4), (.op (.mv (.t 78))), none⟩, ⟨(some 5), (.op (.mv (.k (.int .i64 0)))), none⟩])
  .ret)))))))))))
def a9 : AF := ⟨79, [(.t 4), (.t 5)], .code b9, none⟩
theorem ok9 : AFOk Try.prog ext 9 a9 := .of Try.func9 (by kernel_rfl) (by kernel_rfl) (by kernel_rfl) (by kernel_rfl)
/-! 10: (*rowlock/norec.Engine).Ask -/
def b10 : AC :=
  (.seq (.reg [⟨(some 5), (.op (.box 32 (.t 2))), none⟩, ⟨(some 6), (.op (.mv (.k (.int .i64 0)))), none⟩])
  (.seq (.seq (.reg [⟨(some 10), (.op (.mv (.t 0))), none⟩, ⟨(some 11), (.op (.mv (.t 1))), none⟩, ⟨(some 12), (.call (.f 24) [(.t 10), (.t 11)]), none⟩, ⟨(some 7), (.op (.mv (.t 12))), none⟩])
  (.seq (.reg [⟨(some 13), (.op (.mv (.t 7))), none⟩, ⟨(some 14), (.op (.bin .neq (.t 13) (.k (.int .i64 0)))), none⟩])
  (.cond (.t 14) (.seq (.reg [⟨(some 15), (.op (.mv (.t 7))), none⟩, ⟨(some 6), (.op (.mv (.t 15))), none⟩])
  .ret)
  .skip)))
  (.seq (.reg [⟨(some 16), (.op (.mv (.t 0))), none⟩, ⟨(some 17), (.op (.nilchk (.t 16))), none⟩, ⟨(some 18), (.op (.faddr 2 (.t 17))), none⟩, ⟨(some 19), (.op (.load (.t 18))), none⟩, ⟨(some 20), (.op (.mv (.t 1))), none⟩, ⟨(some 21), (.op (.lookup false (.pointer none) false (.t 19) (.t 20))), none⟩, ⟨(some 8), (.op (.mv (.t 21))), none⟩])
  (.seq (.seq (.reg [⟨(some 22), (.op (.mv (.t 8))), none⟩, ⟨(some 23), (.op (.eq false .ptr (.t 22) (.k (.pointer none)))), none⟩])
  (.cond (.t 23) (.seq (.reg [⟨(some 6), (.op (.mv (.k (.int .i64 8)))), none⟩])
  .ret)
  .skip))
  (.seq (.seq (.reg [⟨(some 24), (.op (.mv (.t 8))), none⟩, ⟨(some 25), (.op (.nilchk (.t 24))), none⟩, ⟨(some 26), (.op (.faddr 4 (.t 25))), none⟩, ⟨(some 27), (.op (.faddr 0 (.t 26))), none⟩, ⟨(some 28), (.op (.load (.t 27))), none⟩, ⟨(some 29), (.op (.bin .neq (.t 28) (.k (.int .u8 0)))), none⟩])
  (.cond (.t 29) (.seq (.reg [⟨(some 6), (.op (.mv (.k (.int .i64 7)))), none⟩])
  .ret)
  .skip))
  (.seq (.reg [⟨(some 30), (.op (.mv (.t 0))), none⟩, ⟨(some 31), (.op (.mv (.t 8))), none⟩, ⟨(some 32), (.op (.loadN 3 (.t 5))), none⟩, ⟨(some 33), (.call (.f 29) [(.t 30), (.t 31), (.t 32)]), none⟩, ⟨(some 9), (.op (.mv (.t 33))), none⟩])
  (.seq (.seq (.reg [⟨(some 34), (.op (.mv (.t 9))), none⟩, ⟨(some 35), (.op (.bin .eql (.t 34) (.k (.int .i64 0)))), none⟩])
  (.cond (.t 35) (.reg [⟨(some 36), (.op (.mv (.t 8))), none⟩, ⟨(some 37), (.op (.mv (.t 8))), none⟩, ⟨(some 38), (.op (.mv (.t 8))), none⟩, ⟨(some 39), (.op (.loadN 3 (.t 5))), none⟩, ⟨(some 40), (.op (.nilchk (.t 36))), none⟩, ⟨(some 41), (.op (.faddr 4 (.t 40))), none⟩, ⟨none, (.op (.store 3 (.t 41) (.t 39))), none⟩, ⟨(some 42), (.op (.nilchk (.t 37))), none⟩, ⟨(some 43), (.op (.faddr 7 (.t 42))), none⟩, ⟨none, (.op (.store 1 (.t 43) (.k (.int .i64 0)))), none⟩, ⟨(some 44), (.op (.nilchk (.t 38))), none⟩, ⟨(some 45), (.op (.faddr 9 (.t 44))), none⟩, ⟨none, (.op (.store 1 (.t 45) (.k (.int .i64 0)))), none⟩])
  .skip))
  (.seq (.reg [⟨(some 46), (.op (.mv (.t 9))), none⟩, ⟨(some 6), (.op (.mv (.t 46))), none⟩])
  .ret))))))))
def a10 : AF := ⟨47, [(.t 6)], .code b10, none⟩
theorem ok10 : AFOk Try.prog ext 10 a10 := .of Try.func10 (by kernel_rfl) (by kernel_rfl) (by kernel_rfl) (by kernel_rfl)
/-! 11: (*rowlock/norec.Engine).Step -/
def b11 : AC :=
  (.seq (.reg [⟨(some 4), (.op (.alloc 41 [(.bool false), (.int .u64 0), (.bool false), (.int .i64 0), (.bool false), (.int .u8 0), (.int .i64 0)])), none⟩])
  (.seq (.seq (.reg [⟨(some 9), (.op (.mv (.t 0))), none⟩, ⟨(some 10), (.op (.mv (.t 1))), none⟩, ⟨(some 11), (.call (.f 24) [(.t 9), (.t 10)]), none⟩, ⟨(some 5), (.op (.mv (.t 11))), none⟩])
  (.seq (.reg [⟨(some 12), (.op (.mv (.t 5))), none⟩, ⟨(some 13), (.op (.bin .neq (.t 12) (.k (.int .i64 0)))), none⟩])
  (.cond (.t 13) (.seq (.reg [⟨(some 14), (.op (.mv (.t 5))), none⟩, ⟨(some 15), (.op (.build [(.bool false), (.int .u64 0), (.bool false), (.int .i64 0), (.bool false), (.int .u8 0), (.int .i64 0)] [(6, 1, (.t 14))])), none⟩, ⟨none, (.op (.store 7 (.t 4) (.t 15))), none⟩])
  .ret)
  .skip)))
  (.seq (.reg [⟨(some 16), (.op (.mv (.t 0))), none⟩, ⟨(some 17), (.op (.nilchk (.t 16))), none⟩, ⟨(some 18), (.op (.faddr 2 (.t 17))), none⟩, ⟨(some 19), (.op (.load (.t 18))), none⟩, ⟨(some 20), (.op (.mv (.t 1))), none⟩, ⟨(some 21), (.op (.lookup false (.pointer none) false (.t 19) (.t 20))), none⟩, ⟨(some 6), (.op (.mv (.t 21))), none⟩])
  (.seq (.seq (.reg [⟨(some 22), (.op (.mv (.t 6))), none⟩, ⟨(some 23), (.op (.eq false .ptr (.t 22) (.k (.pointer none)))), none⟩, ⟨(some 24), (.op (.mv (.t 23))), none⟩, ⟨(some 25), (.op (.mv (.t 6))), (some (24, false))⟩, ⟨(some 26), (.op (.nilchk (.t 25))), (some (24, false))⟩, ⟨(some 27), (.op (.faddr 4 (.t 26))), (some (24, false))⟩, ⟨(some 28), (.op (.faddr 0 (.t 27))), (some (24, false))⟩, ⟨(some 29), (.op (.load (.t 28))), (some (24, false))⟩, ⟨(some 30), (.op (.bin .eql (.t 29) (.k (.int .u8 0)))), (some (24, false))⟩, ⟨(some 31), (.op (.pick (.t 24) (.k (.bool true)) (.t 30))), none⟩])
  (.cond (.t 31) (.seq (.reg [⟨(some 32), (.op (.build [(.bool false), (.int .u64 0), (.bool false), (.int .i64 0), (.bool false), (.int .u8 0), (.int .i64 0)] [(6, 1, (.k (.int .i64 8)))])), none⟩, ⟨none, (.op (.store 7 (.t 4) (.t 32))), none⟩])
  .ret)
  .skip))
  (.seq (.seq (.reg [⟨(some 33), (.op (.mv (.t 6))), none⟩, ⟨(some 34), (.op (.nilchk (.t 33))), none⟩, ⟨(some 35), (.op (.faddr 7 (.t 34))), none⟩, ⟨(some 36), (.op (.load (.t 35))), none⟩, ⟨(some 37), (.op (.bin .geq (.t 36) (.k (.int .i64 4)))), none⟩])
  (.cond (.t 37) (.seq (.reg [⟨(some 38), (.op (.mv (.t 0))), none⟩, ⟨(some 39), (.op (.mv (.t 1))), none⟩, ⟨(some 40), (.op (.mv (.t 6))), none⟩, ⟨(some 41), (.call (.f 30) [(.t 38), (.t 39), (.t 40)]), none⟩, ⟨none, (.op (.store 7 (.t 4) (.t 41))), none⟩])
  .ret)
  .skip))
  (.seq (.seq (.reg [⟨(some 42), (.op (.mv (.t 6))), none⟩, ⟨(some 43), (.op (.nilchk (.t 42))), none⟩, ⟨(some 44), (.op (.faddr 4 (.t 43))), none⟩, ⟨(some 45), (.op (.faddr 0 (.t 44))), none⟩, ⟨(some 46), (.op (.load (.t 45))), none⟩])
  (.block 0 (.seq (.reg [⟨(some 48), (.op (.bin .eql (.t 46) (.k (.int .u8 7)))), none⟩, ⟨(some 47), (.op (.mv (.t 48))), none⟩])
  (.cond (.t 47) (.seq (.reg [⟨(some 49), (.op (.mv (.t 0))), none⟩, ⟨(some 50), (.op (.mv (.t 1))), none⟩, ⟨(some 51), (.call (.f 31) [(.t 49), (.t 50), (.k (.int .u8 4))]), none⟩, ⟨none, (.op (.store 7 (.t 4) (.t 51))), none⟩])
  .ret)
  (.seq (.reg [⟨(some 53), (.op (.bin .eql (.t 46) (.k (.int .u8 6)))), none⟩, ⟨(some 52), (.op (.mv (.t 53))), none⟩])
  (.cond (.t 52) (.seq (.reg [⟨(some 54), (.op (.mv (.t 0))), none⟩, ⟨(some 55), (.op (.mv (.t 1))), none⟩, ⟨(some 56), (.op (.mv (.t 6))), none⟩, ⟨(some 57), (.call (.f 32) [(.t 54), (.t 55), (.t 56)]), none⟩, ⟨none, (.op (.store 7 (.t 4) (.t 57))), none⟩])
  .ret)
  (.seq (.reg [⟨(some 59), (.op (.bin .eql (.t 46) (.k (.int .u8 1)))), none⟩, ⟨(some 58), (.op (.mv (.t 59))), none⟩])
  (.cond (.t 58) (.seq (.seq (.dreg (.quiet ⟨(some 61), (.op (.mv (.t 6))), none⟩ (.quiet ⟨(some 62), (.op (.nilchk (.t 61))), none⟩ (.quiet ⟨(some 63), (.op (.faddr 1 (.t 62))), none⟩ (.quiet ⟨(some 64), (.op (.load (.t 63))), none⟩ (.quiet ⟨(some 65), (.op (.mv (.t 6))), none⟩ (.quiet ⟨(some 66), (.op (.nilchk (.t 65))), none⟩ (.quiet ⟨(some 67), (.op (.faddr 4 (.t 66))), none⟩ (.quiet ⟨(some 68), (.op (.faddr 1 (.t 67))), none⟩ (.quiet ⟨(some 69), (.op (.load (.t 68))), none⟩ (.loud ⟨(some 70), (.call (.f 33) [(.t 64), (.t 69)]), none⟩ [] (.quiet ⟨(some 60), (.op (.mv (.t 70))), none⟩ (.quiet ⟨(some 71), (.op (.extract (.t 60) 0)), none⟩ (.quiet ⟨(some 72), (.op (.extract (.t 60) 1)), none⟩ (.loud ⟨(some 7), (.op (.mv (.t 71))), none⟩ [] (.loud ⟨(some 8), (.op (.mv (.t 72))), none⟩ [] .nil))))))))))))))))
  (.seq (.reg [⟨(some 73), (.op (.mv (.t 8))), none⟩])
  (.cond (.t 73) (.seq (.reg [⟨(some 74), (.op (.mv (.t 0))), none⟩, ⟨(some 75), (.op (.mv (.t 6))), none⟩, ⟨(some 76), (.op (.mv (.t 7))), none⟩, ⟨(some 77), (.call (.f 34) [(.t 74), (.t 75), (.t 76)]), none⟩, ⟨none, (.op (.store 7 (.t 4) (.t 77))), none⟩])
  .ret)
  .skip)))
  (.seq (.reg [⟨(some 78), (.op (.mv (.t 0))), none⟩, ⟨(some 79), (.op (.mv (.t 1))), none⟩, ⟨(some 80), (.op (.mv (.t 6))), none⟩, ⟨(some 81), (.call (.f 35) [(.t 78), (.t 79), (.t 80)]), none⟩, ⟨none, (.op (.store 7 (.t 4) (.t 81))), none⟩])
  .ret))
  .skip))))))))
  (.seq (.reg [⟨(some 82), (.op (.mv (.t 0))), none⟩, ⟨(some 83), (.op (.mv (.t 1))), none⟩, ⟨(some 84), (.op (.mv (.t 6))), none⟩, ⟨(some 85), (.call (.f 36) [(.t 82), (.t 83), (.t 84)]), none⟩, ⟨none, (.op (.store 7 (.t 4) (.t 85))), none⟩])
  .ret)))))))
def a11 : AF := ⟨86, [(.c 4 true 7)], .code b11, none⟩
theorem ok11 : AFOk Try.prog ext 11 a11 := .of Try.func11 (by kernel_rfl) (by kernel_rfl) (by kernel_rfl) (by kernel_rfl)
/-! 12: (*rowlock/norec.Engine).Clock -/
def b12 : AC :=
  (.seq (.reg [⟨(some 2), (.op (.mv (.k (.int .u64 0)))), none⟩])
  (.seq (.seq (.reg [⟨(some 3), (.op (.mv (.t 0))), none⟩, ⟨(some 4), (.op (.eq false .ptr (.t 3) (.k (.pointer none)))), none⟩])
  (.cond (.t 4) (.seq (.reg [⟨(some 2), (.op (.mv (.k (.int .u64 0)))), none⟩])
  .ret)
  .skip))
  (.seq (.reg [⟨(some 5), (.op (.mv (.t 0))), none⟩, ⟨(some 6), (.op (.nilchk (.t 5))), none⟩, ⟨(some 7), (.op (.faddr 0 (.t 6))), none⟩, ⟨(some 8), (.op (.load (.t 7))), none⟩, ⟨(some 9), (.call (.f 37) [(.t 8)]), none⟩, ⟨(some 2), (.op (.mv (.t 9))), none⟩])
  .ret)))
def a12 : AF := ⟨10, [(.t 2)], .code b12, none⟩
theorem ok12 : AFOk Try.prog ext 12 a12 := .of Try.func12 (by kernel_rfl) (by kernel_rfl) (by kernel_rfl) (by kernel_rfl)
/-! 13: rowlock/rowlocklaw11.alone -/
def b13 : AC :=
  (.seq (.reg [⟨(some 2), (.op (.mv (.k (.pointer none)))), none⟩])
  (.seq (.reg [⟨(some 6), (.call (.f 7) []), none⟩, ⟨(some 7), (.call (.f 6) [(.t 6)]), none⟩, ⟨(some 3), (.op (.mv (.t 7))), none⟩])
  (.seq (.seq (.reg [⟨(some 4), (.op (.mv (.k (.int .i64 0)))), none⟩])
  (.block 0 (.loop (.seq (.seq (.reg [⟨(some 8), (.op (.mv (.t 4))), none⟩, ⟨(some 9), (.op (.mv (.t 0))), none⟩, ⟨(some 10), (.op (.lenS (.t 9))), none⟩, ⟨(some 11), (.op (.bin .lss (.t 8) (.t 10))), none⟩, ⟨(some 12), (.op (.mv (.t 11))), none⟩, ⟨(some 13), (.op (.mv (.t 4))), (some (12, true))⟩, ⟨(some 14), (.op (.bin .lss (.t 13) (.k (.int .i64 120)))), (some (12, true))⟩, ⟨(some 15), (.op (.pick (.t 12) (.t 14) (.k (.bool false)))), none⟩, ⟨(some 16), (.op (.mv (.t 15))), none⟩, ⟨(some 17), (.op (.mv (.t 3))), (some (16, true))⟩, ⟨(some 18), (.op (.eq true .ptr (.t 17) (.k (.pointer none)))), (some (16, true))⟩, ⟨(some 19), (.op (.pick (.t 16) (.t 18) (.k (.bool false)))), none⟩])
   (.cond (.t 19) .skip
   (.exit 0)))
   (.seq (.block 1 (.seq (.reg [⟨(some 22), (.op (.mv (.t 0))), none⟩, ⟨(some 23), (.op (.mv (.t 4))), none⟩, ⟨(some 24), (.op (.iaddrS 5 (.t 22) (.t 23))), none⟩, ⟨(some 25), (.op (.loadN 5 (.t 24))), none⟩, ⟨(some 5), (.op (.alloc 34 [(.int .i64 0), (.int .i64 0), (.int .u8 0), (.int .i64 0), (.int .u64 0)])), none⟩, ⟨none, (.op (.store 5 (.t 5) (.t 25))), none⟩])
   (.seq (.reg [⟨(some 26), (.op (.faddr 0 (.t 5))), none⟩, ⟨(some 27), (.op (.load (.t 26))), none⟩])
   (.block 2 (.seq (.reg [⟨(some 29), (.op (.bin .eql (.t 27) (.k (.int .i64 0)))), none⟩, ⟨(some 28), (.op (.mv (.t 29))), none⟩])
   (.cond (.t 28) (.reg [⟨(some 30), (.op (.mv (.t 3))), none⟩, ⟨(some 31), (.op (.faddr 1 (.t 5))), none⟩, ⟨(some 32), (.op (.load (.t 31))), none⟩, ⟨(some 33), (.call (.f 9) [(.t 30), (.t 32)]), none⟩])
   (.seq (.reg [⟨(some 35), (.op (.bin .eql (.t 27) (.k (.int .i64 1)))), none⟩, ⟨(some 34), (.op (.mv (.t 35))), none⟩])
   (.cond (.t 34) (.reg [⟨(some 36), (.op (.mv (.t 3))), none⟩, ⟨(some 37), (.op (.faddr 1 (.t 5))), none⟩, ⟨(some 38), (.op (.load (.t 37))), none⟩, ⟨(some 39), (.op (.faddr 2 (.t 5))), none⟩, ⟨(some 40), (.op (.loadN 3 (.t 39))), none⟩, ⟨(some 41), (.call (.f 10) [(.t 36), (.t 38), (.t 40)]), none⟩])
   (.seq (.reg [⟨(some 43), (.op (.bin .eql (.t 27) (.k (.int .i64 2)))), none⟩, ⟨(some 42), (.op (.mv (.t 43))), none⟩])
   (.cond (.t 42) (.reg [⟨(some 44), (.op (.mv (.t 3))), none⟩, ⟨(some 45), (.op (.faddr 1 (.t 5))), none⟩, ⟨(some 46), (.op (.load (.t 45))), none⟩, ⟨(some 47), (.call (.f 11) [(.t 44), (.t 46)]), none⟩])
   (.seq (.reg [⟨(some 49), (.op (.bin .eql (.t 27) (.k (.int .i64 3)))), none⟩, ⟨(some 48), (.op (.mv (.t 49))), none⟩])
   (.cond (.t 48) (.reg [⟨(some 50), (.op (.mv (.t 3))), none⟩, ⟨(some 51), (.op (.faddr 1 (.t 5))), none⟩, ⟨(some 52), (.op (.load (.t 51))), none⟩, ⟨(some 53), (.call (.f 17) [(.t 50), (.t 52)]), none⟩])
   .skip))))))))))))
   (.reg [⟨(some 20), (.op (.mv (.t 4))), none⟩, ⟨(some 21), (.op (.bin .add (.t 20) (.k (.int .i64 1)))), none⟩, ⟨(some 4), (.op (.mv (.t 21))), none⟩]))))))
  (.seq (.reg [⟨(some 54), (.op (.mv (.t 3))), none⟩, ⟨(some 2), (.op (.mv (.t 54))), none⟩])
  .ret))))
def a13 : AF := ⟨55, [(.t 2)], .code b13, none⟩
theorem ok13 : AFOk Try.prog ext 13 a13 := .of Try.func13 (by kernel_rfl) (by kernel_rfl) (by kernel_rfl) (by kernel_rfl)
/-! 14: (*rowlock/norec.Engine).Attempt -/
def b14 : AC :=
  (.seq (.reg [⟨(some 4), (.op (.mv (.k (.int .i64 0)))), none⟩, ⟨(some 5), (.op (.mv (.k (.bool false)))), none⟩])
  (.seq (.seq (.reg [⟨(some 7), (.op (.mv (.t 0))), none⟩, ⟨(some 8), (.op (.mv (.t 1))), none⟩, ⟨(some 9), (.call (.f 38) [(.t 7), (.t 8)]), none⟩, ⟨(some 6), (.op (.mv (.t 9))), none⟩])
  (.seq (.reg [⟨(some 10), (.op (.mv (.t 6))), none⟩, ⟨(some 11), (.op (.eq true .ptr (.t 10) (.k (.pointer none)))), none⟩])
  (.cond (.t 11) (.seq (.reg [⟨(some 12), (.op (.mv (.t 6))), none⟩, ⟨(some 13), (.op (.nilchk (.t 12))), none⟩, ⟨(some 14), (.op (.faddr 2 (.t 13))), none⟩, ⟨(some 15), (.op (.load (.t 14))), none⟩, ⟨(some 4), (.op (.mv (.t 15))), none⟩, ⟨(some 5), (.op (.mv (.k (.bool true)))), none⟩])
  .ret)
  .skip)))
  (.seq (.reg [⟨(some 4), (.op (.mv (.k (.int .i64 0)))), none⟩, ⟨(some 5), (.op (.mv (.k (.bool false)))), none⟩])
  .ret)))
def a14 : AF := ⟨16, [(.t 4), (.t 5)], .code b14, none⟩
theorem ok14 : AFOk Try.prog ext 14 a14 := .of Try.func14 (by kernel_rfl) (by kernel_rfl) (by kernel_rfl) (by kernel_rfl)
/-! 15: (*rowlock/norec.Engine).Heap -/
def b15 : AC :=
  (.seq (.reg [⟨(some 2), (.op (.mv (.k (.slice none 0 0)))), none⟩])
  (.seq (.seq (.reg [⟨(some 3), (.op (.mv (.t 0))), none⟩, ⟨(some 4), (.op (.eq false .ptr (.t 3) (.k (.pointer none)))), none⟩])
  (.cond (.t 4) (.seq (.reg [⟨(some 2), (.op (.mv (.k (.slice none 0 0)))), none⟩])
  .ret)
  .skip))
  (.seq (.reg [⟨(some 5), (.op (.mv (.t 0))), none⟩, ⟨(some 6), (.op (.nilchk (.t 5))), none⟩, ⟨(some 7), (.op (.faddr 1 (.t 6))), none⟩, ⟨(some 8), (.op (.load (.t 7))), none⟩, ⟨(some 9), (.call (.f 22) [(.t 8)]), none⟩, ⟨(some 2), (.op (.mv (.t 9))), none⟩])
  .ret)))
def a15 : AF := ⟨10, [(.t 2)], .code b15, none⟩
theorem ok15 : AFOk Try.prog ext 15 a15 := .of Try.func15 (by kernel_rfl) (by kernel_rfl) (by kernel_rfl) (by kernel_rfl)
/-! 16: (*rowlock/norec.Engine).Holds -/
def b16 : AC :=
  (.seq (.reg [⟨(some 4), (.op (.mv (.k (.bool false)))), none⟩])
  (.seq (.seq (.reg [⟨(some 7), (.op (.mv (.t 0))), none⟩, ⟨(some 8), (.op (.eq false .ptr (.t 7) (.k (.pointer none)))), none⟩])
  (.cond (.t 8) (.seq (.reg [⟨(some 4), (.op (.mv (.k (.bool false)))), none⟩])
  .ret)
  .skip))
  (.seq (.reg [⟨(some 10), (.op (.mv (.t 0))), none⟩, ⟨(some 11), (.op (.nilchk (.t 10))), none⟩, ⟨(some 12), (.op (.faddr 0 (.t 11))), none⟩, ⟨(some 13), (.op (.load (.t 12))), none⟩, ⟨(some 14), (.call (.f 39) [(.t 13)]), none⟩, ⟨(some 9), (.op (.mv (.t 14))), none⟩, ⟨(some 15), (.op (.extract (.t 9) 0)), none⟩, ⟨(some 16), (.op (.extract (.t 9) 1)), none⟩, ⟨(some 5), (.op (.mv (.t 15))), none⟩, ⟨(some 6), (.op (.mv (.t 16))), none⟩])
  (.seq (.reg [⟨(some 17), (.op (.mv (.t 6))), none⟩, ⟨(some 18), (.op (.mv (.t 17))), none⟩, ⟨(some 19), (.op (.mv (.t 5))), (some (18, true))⟩, ⟨(some 20), (.op (.mv (.t 1))), (some (18, true))⟩, ⟨(some 21), (.op (.bin .eql (.t 19) (.t 20))), (some (18, true))⟩, ⟨(some 22), (.op (.pick (.t 18) (.t 21) (.k (.bool false)))), none⟩, ⟨(some 4), (.op (.mv (.t 22))), none⟩])
  .ret))))
def a16 : AF := ⟨23, [(.t 4)], .code b16, none⟩
theorem ok16 : AFOk Try.prog ext 16 a16 := .of Try.func16 (by kernel_rfl) (by kernel_rfl) (by kernel_rfl) (by kernel_rfl)
/-! 17: (*rowlock/norec.Engine).Kill -/
def b17 : AC :=
  (.seq (.reg [⟨(some 4), (.op (.mv (.k (.int .i64 0)))), none⟩])
  (.seq (.seq (.reg [⟨(some 7), (.op (.mv (.t 0))), none⟩, ⟨(some 8), (.op (.mv (.t 1))), none⟩, ⟨(some 9), (.call (.f 24) [(.t 7), (.t 8)]), none⟩, ⟨(some 5), (.op (.mv (.t 9))), none⟩])
  (.seq (.reg [⟨(some 10), (.op (.mv (.t 5))), none⟩, ⟨(some 11), (.op (.bin .neq (.t 10) (.k (.int .i64 0)))), none⟩])
  (.cond (.t 11) (.seq (.reg [⟨(some 12), (.op (.mv (.t 5))), none⟩, ⟨(some 4), (.op (.mv (.t 12))), none⟩])
  .ret)
  .skip)))
  (.seq (.reg [⟨(some 13), (.op (.mv (.t 0))), none⟩, ⟨(some 14), (.op (.nilchk (.t 13))), none⟩, ⟨(some 15), (.op (.faddr 2 (.t 14))), none⟩, ⟨(some 16), (.op (.load (.t 15))), none⟩, ⟨(some 17), (.op (.mv (.t 1))), none⟩, ⟨(some 18), (.op (.lookup false (.pointer none) false (.t 16) (.t 17))), none⟩, ⟨(some 6), (.op (.mv (.t 18))), none⟩])
  (.seq (.seq (.reg [⟨(some 19), (.op (.mv (.t 6))), none⟩, ⟨(some 20), (.op (.eq false .ptr (.t 19) (.k (.pointer none)))), none⟩, ⟨(some 21), (.op (.mv (.t 20))), none⟩, ⟨(some 22), (.op (.mv (.t 6))), (some (21, false))⟩, ⟨(some 23), (.op (.nilchk (.t 22))), (some (21, false))⟩, ⟨(some 24), (.op (.faddr 12 (.t 23))), (some (21, false))⟩, ⟨(some 25), (.op (.load (.t 24))), (some (21, false))⟩, ⟨(some 26), (.op (.pick (.t 21) (.k (.bool true)) (.t 25))), none⟩])
  (.cond (.t 26) (.seq (.reg [⟨(some 4), (.op (.mv (.k (.int .i64 8)))), none⟩])
  .ret)
  .skip))
  (.seq (.reg [⟨(some 27), (.op (.mv (.t 0))), none⟩, ⟨(some 28), (.op (.mv (.t 1))), none⟩, ⟨(some 29), (.call (.f 31) [(.t 27), (.t 28), (.k (.int .u8 3))]), none⟩])
  (.seq (.reg [⟨(some 4), (.op (.mv (.k (.int .i64 0)))), none⟩])
  .ret))))))
def a17 : AF := ⟨30, [(.t 4)], .code b17, none⟩
theorem ok17 : AFOk Try.prog ext 17 a17 := .of Try.func17 (by kernel_rfl) (by kernel_rfl) (by kernel_rfl) (by kernel_rfl)
/-! 18: rowlock/rowlockref01.SameVals -/
def b18 : AC :=
  (.seq (.reg [⟨(some 4), (.op (.mv (.k (.bool false)))), none⟩])
  (.seq (.seq (.reg [⟨(some 6), (.op (.mv (.t 0))), none⟩, ⟨(some 7), (.op (.lenS (.t 6))), none⟩, ⟨(some 8), (.op (.mv (.t 1))), none⟩, ⟨(some 9), (.op (.lenS (.t 8))), none⟩, ⟨(some 10), (.op (.bin .neq (.t 7) (.t 9))), none⟩])
  (.cond (.t 10) (.seq (.reg [⟨(some 4), (.op (.mv (.k (.bool false)))), none⟩])
  .ret)
  .skip))
  (.seq (.seq (.reg [⟨(some 5), (.op (.mv (.k (.int .i64 0)))), none⟩])
  (.block 0 (.loop (.seq (.seq (.reg [⟨(some 11), (.op (.mv (.t 5))), none⟩, ⟨(some 12), (.op (.mv (.t 0))), none⟩, ⟨(some 13), (.op (.lenS (.t 12))), none⟩, ⟨(some 14), (.op (.bin .lss (.t 11) (.t 13))), none⟩])
   (.cond (.t 14) .skip
   (.exit 0)))
   (.seq (.block 1 (.seq (.dreg (.quiet ⟨(some 17), (.op (.mv (.t 0))), none⟩ (.quiet ⟨(some 18), (.op (.mv (.t 5))), none⟩ (.quiet ⟨(some 19), (.op (.iaddrS 1 (.t 17) (.t 18))), none⟩ (.quiet ⟨(some 20), (.op (.load (.t 19))), none⟩ (.quiet ⟨(some 21), (.op (.mv (.t 1))), none⟩ (.quiet ⟨(some 22), (.op (.mv (.t 5))), none⟩ (.quiet ⟨(some 23), (.op (.iaddrS 1 (.t 21) (.t 22))), none⟩ (.quiet ⟨(some 24), (.op (.load (.t 23))), none⟩ (.quiet ⟨(some 25), (.op (.bin .neq (.t 20) (.t 24))), none⟩ .nil))))))))))
   (.cond (.t 25) (.seq (.reg [⟨(some 4), (.op (.mv (.k (.bool false)))), none⟩])
   .ret)
   .skip)))
   (.reg [⟨(some 15), (.op (.mv (.t 5))), none⟩, ⟨(some 16), (.op (.bin .add (.t 15) (.k (.int .i64 1)))), none⟩, ⟨(some 5), (.op (.mv (.t 16))), none⟩]))))))
  (.seq (.reg [⟨(some 4), (.op (.mv (.k (.bool true)))), none⟩])
  .ret))))
def a18 : AF := ⟨26, [(.t 4)], .code b18, none⟩
theorem ok18 : AFOk Try.prog ext 18 a18 := .of Try.func18 (by kernel_rfl) (by kernel_rfl) (by kernel_rfl) (by kernel_rfl)
/-! 19: (*rowlock/norec.Engine).Why -/
def b19 : AC :=
  (.seq (.reg [⟨(some 4), (.op (.mv (.k (.int .u8 0)))), none⟩])
  (.seq (.seq (.reg [⟨(some 5), (.op (.mv (.t 0))), none⟩, ⟨(some 6), (.op (.eq false .ptr (.t 5) (.k (.pointer none)))), none⟩, ⟨(some 7), (.op (.mv (.t 6))), none⟩, ⟨(some 8), (.op (.mv (.t 1))), (some (7, false))⟩, ⟨(some 9), (.op (.bin .lss (.t 8) (.k (.int .i64 0)))), (some (7, false))⟩, ⟨(some 10), (.op (.pick (.t 7) (.k (.bool true)) (.t 9))), none⟩, ⟨(some 11), (.op (.mv (.t 10))), none⟩, ⟨(some 12), (.op (.mv (.t 1))), (some (11, false))⟩, ⟨(some 13), (.op (.mv (.t 0))), (some (11, false))⟩, ⟨(some 14), (.op (.nilchk (.t 13))), (some (11, false))⟩, ⟨(some 15), (.op (.faddr 5 (.t 14))), (some (11, false))⟩, ⟨(some 16), (.op (.load (.t 15))), (some (11, false))⟩, ⟨(some 17), (.op (.lenS (.t 16))), (some (11, false))⟩, ⟨(some 18), (.op (.bin .geq (.t 12) (.t 17))), (some (11, false))⟩, ⟨(some 19), (.op (.pick (.t 11) (.k (.bool true)) (.t 18))), none⟩])
  (.cond (.t 19) (.seq (.reg [⟨(some 4), (.op (.mv (.k (.int .u8 0)))), none⟩])
  .ret)
  .skip))
  (.seq (.reg [⟨(some 20), (.op (.mv (.t 0))), none⟩, ⟨(some 21), (.op (.nilchk (.t 20))), none⟩, ⟨(some 22), (.op (.faddr 5 (.t 21))), none⟩, ⟨(some 23), (.op (.load (.t 22))), none⟩, ⟨(some 24), (.op (.mv (.t 1))), none⟩, ⟨(some 25), (.op (.iaddrS 1 (.t 23) (.t 24))), none⟩, ⟨(some 26), (.op (.load (.t 25))), none⟩, ⟨(some 4), (.op (.mv (.t 26))), none⟩])
  .ret)))
def a19 : AF := ⟨27, [(.t 4)], .code b19, none⟩
theorem ok19 : AFOk Try.prog ext 19 a19 := .of Try.func19 (by kernel_rfl) (by kernel_rfl) (by kernel_rfl) (by kernel_rfl)
/-! 20: rowlock/value.Right -/
def b20 : AC :=
  (.seq (.reg [⟨(some 2), (.op (.mv (.k (.bool false)))), none⟩])
  (.seq (.reg [⟨(some 3), (.op (.mv (.t 0))), none⟩, ⟨(some 4), (.op (.bin .andNot (.t 3) (.k (.int .u64 9223372036854775808)))), none⟩, ⟨(some 5), (.op (.bin .leq (.t 4) (.k (.int .u64 9218868437227405312)))), none⟩, ⟨(some 6), (.op (.mv (.t 5))), none⟩, ⟨(some 7), (.op (.mv (.t 0))), (some (6, false))⟩, ⟨(some 8), (.op (.bin .eql (.t 7) (.k (.int .u64 9221120237041090560)))), (some (6, false))⟩, ⟨(some 9), (.op (.pick (.t 6) (.k (.bool true)) (.t 8))), none⟩, ⟨(some 2), (.op (.mv (.t 9))), none⟩])
  .ret))
def a20 : AF := ⟨10, [(.t 2)], .code b20, none⟩
theorem ok20 : AFOk Try.prog ext 20 a20 := .of Try.func20 (by kernel_rfl) (by kernel_rfl) (by kernel_rfl) (by kernel_rfl)
/-! 21: rowlock/seqlock.New -/
def b21 : AC :=
  (.seq (.reg [⟨(some 0), (.op (.mv (.k (.pointer none)))), none⟩])
  (.seq (.reg [⟨(some 1), (.op (.build [(.pointer none), (.int .u64 0)] [])), none⟩, ⟨(some 2), (.op (.box 89 (.t 1))), none⟩, ⟨(some 0), (.op (.mv (.t 2))), none⟩])
  .ret))
def a21 : AF := ⟨3, [(.t 0)], .code b21, none⟩
theorem ok21 : AFOk Try.prog ext 21 a21 := .of Try.func21 (by kernel_rfl) (by kernel_rfl) (by kernel_rfl) (by kernel_rfl)
/-! 22: slices.Clone[[]rowlock/api.Val,rowlock/api.Val] -/
def b22 : AC :=
  (.seq (.reg [⟨(some 2), (.op (.mv (.k (.slice none 0 0)))), none⟩])
  (.seq (.seq (.reg [⟨(some 3), (.op (.mv (.t 0))), none⟩, ⟨(some 4), (.isnil false (.t 3)), none⟩])
  (.cond (.t 4) (.seq (.reg [⟨(some 2), (.op (.mv (.k (.slice none 0 0)))), none⟩])
  .ret)
  .skip))
  (.seq (.reg [⟨(some 5), (.op (.bslice 30 [] 0 [])), none⟩, ⟨(some 6), (.op (.mv (.t 0))), none⟩, ⟨(some 7), (.op (.append 30 1 8 (.t 5) (.t 6))), none⟩, ⟨(some 2), (.op (.mv (.t 7))), none⟩])
  .ret)))
def a22 : AF := ⟨8, [(.t 2)], .code b22, none⟩
theorem ok22 : AFOk Try.prog ext 22 a22 := .of Try.func22 (by kernel_rfl) (by kernel_rfl) (by kernel_rfl) (by kernel_rfl)
/-! 23: (*rowlock/norec.Engine).Events -/
def b23 : AC :=
  (.seq (.reg [⟨(some 2), (.op (.mv (.k (.slice none 0 0)))), none⟩])
  (.seq (.seq (.reg [⟨(some 3), (.op (.mv (.t 0))), none⟩, ⟨(some 4), (.op (.eq false .ptr (.t 3) (.k (.pointer none)))), none⟩])
  (.cond (.t 4) (.seq (.reg [⟨(some 2), (.op (.mv (.k (.slice none 0 0)))), none⟩])
  .ret)
  .skip))
  (.seq (.reg [⟨(some 5), (.op (.mv (.t 0))), none⟩, ⟨(some 6), (.op (.nilchk (.t 5))), none⟩, ⟨(some 7), (.op (.faddr 3 (.t 6))), none⟩, ⟨(some 8), (.op (.load (.t 7))), none⟩, ⟨(some 9), (.call (.f 40) [(.t 8)]), none⟩, ⟨(some 2), (.op (.mv (.t 9))), none⟩])
  .ret)))
def a23 : AF := ⟨10, [(.t 2)], .code b23, none⟩
theorem ok23 : AFOk Try.prog ext 23 a23 := .of Try.func23 (by kernel_rfl) (by kernel_rfl) (by kernel_rfl) (by kernel_rfl)
/-! 24: (*rowlock/norec.Engine).may -/
def b24 : AC :=
  (.seq (.reg [⟨(some 4), (.op (.mv (.k (.int .i64 0)))), none⟩])
  (.seq (.block 0 (.seq (.reg [⟨(some 6), (.op (.mv (.t 0))), none⟩, ⟨(some 7), (.op (.eq false .ptr (.t 6) (.k (.pointer none)))), none⟩, ⟨(some 5), (.op (.mv (.t 7))), none⟩])
  (.cond (.t 5) (.seq (.reg [⟨(some 4), (.op (.mv (.k (.int .i64 1)))), none⟩])
  .ret)
  (.seq (.reg [⟨(some 9), (.op (.mv (.t 1))), none⟩, ⟨(some 10), (.op (.bin .lss (.t 9) (.k (.int .i64 0)))), none⟩, ⟨(some 11), (.op (.mv (.t 10))), none⟩, ⟨(some 12), (.op (.mv (.t 1))), (some (11, false))⟩, ⟨(some 13), (.op (.bin .geq (.t 12) (.k (.int .i64 4)))), (some (11, false))⟩, ⟨(some 14), (.op (.pick (.t 11) (.k (.bool true)) (.t 13))), none⟩, ⟨(some 8), (.op (.mv (.t 14))), none⟩])
  (.cond (.t 8) (.seq (.reg [⟨(some 4), (.op (.mv (.k (.int .i64 2)))), none⟩])
  .ret)
  .skip)))))
  (.seq (.reg [⟨(some 4), (.op (.mv (.k (.int .i64 0)))), none⟩])
  .ret)))
def a24 : AF := ⟨15, [(.t 4)], .code b24, none⟩
theorem ok24 : AFOk Try.prog ext 24 a24 := .of Try.func24 (by kernel_rfl) (by kernel_rfl) (by kernel_rfl) (by kernel_rfl)
/-! 25: (*rowlock/seqlock.Lock).Snapshot -/
def b25 : AC :=
  (.seq (.reg [⟨(some 1), (.op (.box 55 (.t 0))), none⟩, ⟨(some 2), (.op (.alloc 29 [(.int .u64 0)])), none⟩, ⟨(some 3), (.op (.mv (.k (.int .i64 0)))), none⟩])
  (.seq (.reg [⟨(some 4), (.op (.mkfunc 42 [] [(.t 1), (.t 2)])), none⟩, ⟨(some 5), (.call (.f 41) [(.t 4)]), none⟩, ⟨(some 3), (.op (.mv (.t 5))), none⟩])
  (.seq (.reg [⟨(some 6), (.op (.load (.t 2))), none⟩, ⟨(some 7), (.op (.mv (.t 3))), none⟩, ⟨none, (.op (.store 1 (.t 2) (.t 6))), none⟩, ⟨(some 3), (.op (.mv (.t 7))), none⟩])
  .ret)))
def a25 : AF := ⟨8, [(.c 2 false 1), (.t 3)], .code b25, none⟩
theorem ok25 : AFOk Try.prog ext 25 a25 := .of Try.func25 (by kernel_rfl) (by kernel_rfl) (by kernel_rfl) (by kernel_rfl)
/-! 26: rowlock/reads.New -/
def b26 : AC :=
  (.seq (.reg [⟨(some 0), (.op (.mv (.k (.pointer none)))), none⟩])
  (.seq (.reg [⟨(some 1), (.op (.mkmap)), none⟩, ⟨(some 2), (.op (.build [(.slice none 0 0), (.map none)] [(1, 1, (.t 1))])), none⟩, ⟨(some 3), (.op (.box 96 (.t 2))), none⟩, ⟨(some 0), (.op (.mv (.t 3))), none⟩])
  .ret))
def a26 : AF := ⟨4, [(.t 0)], .code b26, none⟩
theorem ok26 : AFOk Try.prog ext 26 a26 := .of Try.func26 (by kernel_rfl) (by kernel_rfl) (by kernel_rfl) (by kernel_rfl)
/-! 27: rowlock/writes.New -/
def b27 : AC :=
  (.seq (.reg [⟨(some 0), (.op (.mv (.k (.pointer none)))), none⟩])
  (.seq (.reg [⟨(some 1), (.op (.mv (.k (.pointer none)))), none⟩])
  (.seq (.reg [⟨(some 2), (.op (.mv (.t 1))), none⟩, ⟨(some 3), (.call (.f 44) [(.t 2), (.k (.slice none 0 0))]), none⟩, ⟨(some 4), (.op (.build [(.pointer none), (.int .i64 0)] [(0, 1, (.t 3))])), none⟩, ⟨(some 5), (.op (.box 102 (.t 4))), none⟩, ⟨(some 0), (.op (.mv (.t 5))), none⟩])
  .ret)))
def a27 : AF := ⟨6, [(.t 0)], .code b27, none⟩
theorem ok27 : AFOk Try.prog ext 27 a27 := .of Try.func27 (by kernel_rfl) (by kernel_rfl) (by kernel_rfl) (by kernel_rfl)
/-! 28: (*rowlock/norec.Engine).tell -/
def b28 : AC :=
  (.seq (.reg [⟨(some 3), (.op (.box 78 (.t 1))), none⟩])
  (.dreg (.quiet ⟨(some 4), (.op (.mv (.t 0))), none⟩ (.quiet ⟨(some 5), (.op (.mv (.t 0))), none⟩ (.quiet ⟨(some 6), (.op (.nilchk (.t 5))), none⟩ (.quiet ⟨(some 7), (.op (.faddr 3 (.t 6))), none⟩ (.quiet ⟨(some 8), (.op (.load (.t 7))), none⟩ (.quiet ⟨(some 9), (.op (.loadN 4 (.t 3))), none⟩ (.loud ⟨(some 10), (.op (.bslice 78 [(.int .u8 0), (.int .i64 0), (.int .i64 0), (.int .u64 0)] 1 [(0, 4, (.t 9))])), none⟩ [⟨(some 8), (.op (.load (.t 7))), none⟩] (.loud ⟨(some 11), (.op (.append 78 4 32 (.t 8) (.t 10))), none⟩ [] (.quiet ⟨(some 12), (.op (.nilchk (.t 4))), none⟩ (.quiet ⟨(some 13), (.op (.faddr 3 (.t 12))), none⟩ (.loud ⟨none, (.op (.store 1 (.t 13) (.t 11))), none⟩ [] .nil)))))))))))))
def a28 : AF := ⟨14, [], .code b28, none⟩
theorem ok28 : AFOk Try.prog ext 28 a28 := .of Try.func28 (by kernel_rfl) (by kernel_rfl) (by kernel_rfl) (by kernel_rfl)
/-! 29: (*rowlock/norec.Engine).wanted -/
def b29 : AC :=
  (.seq (.reg [⟨(some 5), (.op (.box 32 (.t 2))), none⟩, ⟨(some 6), (.op (.mv (.k (.int .i64 0)))), none⟩])
  (.seq (.reg [⟨(some 9), (.op (.faddr 0 (.t 5))), none⟩, ⟨(some 10), (.op (.load (.t 9))), none⟩, ⟨(some 11), (.op (.bin .eql (.t 10) (.k (.int .u8 1)))), none⟩, ⟨(some 12), (.op (.mv (.t 11))), none⟩, ⟨(some 13), (.op (.faddr 0 (.t 5))), (some (12, false))⟩, ⟨(some 14), (.op (.load (.t 13))), (some (12, false))⟩, ⟨(some 15), (.op (.bin .eql (.t 14) (.k (.int .u8 2)))), (some (12, false))⟩, ⟨(some 16), (.op (.pick (.t 12) (.k (.bool true)) (.t 15))), none⟩, ⟨(some 7), (.op (.mv (.t 16))), none⟩])
  (.seq (.reg [⟨(some 17), (.op (.mv (.t 1))), none⟩, ⟨(some 18), (.op (.nilchk (.t 17))), none⟩, ⟨(some 19), (.op (.faddr 1 (.t 18))), none⟩, ⟨(some 20), (.op (.load (.t 19))), none⟩, ⟨(some 21), (.call (.f 45) [(.t 20)]), none⟩, ⟨(some 8), (.op (.mv (.t 21))), none⟩])
  (.seq (.block 0 (.seq (.reg [⟨(some 23), (.op (.faddr 0 (.t 5))), none⟩, ⟨(some 24), (.op (.load (.t 23))), none⟩, ⟨(some 25), (.op (.bin .eql (.t 24) (.k (.int .u8 0)))), none⟩, ⟨(some 26), (.op (.mv (.t 25))), none⟩, ⟨(some 27), (.op (.faddr 0 (.t 5))), (some (26, false))⟩, ⟨(some 28), (.op (.load (.t 27))), (some (26, false))⟩, ⟨(some 29), (.op (.bin .gtr (.t 28) (.k (.int .u8 7)))), (some (26, false))⟩, ⟨(some 30), (.op (.pick (.t 26) (.k (.bool true)) (.t 29))), none⟩, ⟨(some 22), (.op (.mv (.t 30))), none⟩])
  (.cond (.t 22) (.seq (.reg [⟨(some 6), (.op (.mv (.k (.int .i64 2)))), none⟩])
  .ret)
  (.seq (.dreg (.quiet ⟨(some 32), (.op (.mv (.t 7))), none⟩ (.quiet ⟨(some 33), (.op (.mv (.t 32))), none⟩ (.quiet ⟨(some 34), (.op (.faddr 1 (.t 5))), (some (33, true))⟩ (.quiet ⟨(some 35), (.op (.load (.t 34))), (some (33, true))⟩ (.quiet ⟨(some 36), (.op (.bin .lss (.t 35) (.k (.int .i64 0)))), (some (33, true))⟩ (.quiet ⟨(some 37), (.op (.mv (.t 36))), (some (33, true))⟩ (.quiet ⟨(some 38), (.op (.faddr 1 (.t 5))), (some (37, false))⟩ (.quiet ⟨(some 39), (.op (.load (.t 38))), (some (37, false))⟩ (.quiet ⟨(some 40), (.op (.mv (.t 0))), (some (37, false))⟩ (.quiet ⟨(some 41), (.op (.nilchk (.t 40))), (some (37, false))⟩ (.quiet ⟨(some 42), (.op (.faddr 1 (.t 41))), (some (37, false))⟩ (.quiet ⟨(some 43), (.op (.load (.t 42))), (some (37, false))⟩ (.quiet ⟨(some 44), (.op (.lenS (.t 43))), (some (37, false))⟩ (.quiet ⟨(some 45), (.op (.bin .geq (.t 39) (.t 44))), (some (37, false))⟩ (.quiet ⟨(some 46), (.op (.pick (.t 37) (.k (.bool true)) (.t 45))), (some (33, true))⟩ (.quiet ⟨(some 47), (.op (.pick (.t 33) (.t 46) (.k (.bool false)))), none⟩ (.loud ⟨(some 31), (.op (.mv (.t 47))), none⟩ [] .nil))))))))))))))))))
  (.cond (.t 31) (.seq (.reg [⟨(some 6), (.op (.mv (.k (.int .i64 2)))), none⟩])
  .ret)
  (.seq (.reg [⟨(some 49), (.op (.faddr 0 (.t 5))), none⟩, ⟨(some 50), (.op (.load (.t 49))), none⟩, ⟨(some 51), (.op (.bin .eql (.t 50) (.k (.int .u8 2)))), none⟩, ⟨(some 52), (.op (.mv (.t 51))), none⟩, ⟨(some 53), (.op (.faddr 2 (.t 5))), (some (52, true))⟩, ⟨(some 54), (.op (.load (.t 53))), (some (52, true))⟩, ⟨(some 55), (.call (.f 20) [(.t 54)]), (some (52, true))⟩, ⟨(some 56), (.op (.un .not (.t 55))), (some (52, true))⟩, ⟨(some 57), (.op (.pick (.t 52) (.t 56) (.k (.bool false)))), none⟩, ⟨(some 48), (.op (.mv (.t 57))), none⟩])
  (.cond (.t 48) (.seq (.reg [⟨(some 6), (.op (.mv (.k (.int .i64 3)))), none⟩])
  .ret)
  (.seq (.reg [⟨(some 59), (.op (.mv (.t 8))), none⟩, ⟨(some 60), (.op (.bin .eql (.t 59) (.k (.int .i64 0)))), none⟩, ⟨(some 61), (.op (.mv (.t 60))), none⟩, ⟨(some 62), (.op (.faddr 0 (.t 5))), (some (61, true))⟩, ⟨(some 63), (.op (.load (.t 62))), (some (61, true))⟩, ⟨(some 64), (.op (.bin .eql (.t 63) (.k (.int .u8 4)))), (some (61, true))⟩, ⟨(some 65), (.op (.mv (.t 64))), (some (61, true))⟩, ⟨(some 66), (.op (.faddr 0 (.t 5))), (some (65, false))⟩, ⟨(some 67), (.op (.load (.t 66))), (some (65, false))⟩, ⟨(some 68), (.op (.bin .eql (.t 67) (.k (.int .u8 5)))), (some (65, false))⟩, ⟨(some 69), (.op (.pick (.t 65) (.k (.bool true)) (.t 68))), (some (61, true))⟩, ⟨(some 70), (.op (.pick (.t 61) (.t 69) (.k (.bool false)))), none⟩, ⟨(some 58), (.op (.mv (.t 70))), none⟩])
  (.cond (.t 58) (.seq (.reg [⟨(some 6), (.op (.mv (.k (.int .i64 8)))), none⟩])
  .ret)
  (.seq (.reg [⟨(some 72), (.op (.mv (.t 8))), none⟩, ⟨(some 73), (.op (.bin .gtr (.t 72) (.k (.int .i64 0)))), none⟩, ⟨(some 74), (.op (.mv (.t 73))), none⟩, ⟨(some 75), (.op (.faddr 0 (.t 5))), (some (74, true))⟩, ⟨(some 76), (.op (.load (.t 75))), (some (74, true))⟩, ⟨(some 77), (.op (.bin .eql (.t 76) (.k (.int .u8 6)))), (some (74, true))⟩, ⟨(some 78), (.op (.pick (.t 74) (.t 77) (.k (.bool false)))), none⟩, ⟨(some 71), (.op (.mv (.t 78))), none⟩])
  (.cond (.t 71) (.seq (.reg [⟨(some 6), (.op (.mv (.k (.int .i64 8)))), none⟩])
  .ret)
  (.seq (.reg [⟨(some 80), (.op (.mv (.t 8))), none⟩, ⟨(some 81), (.op (.bin .geq (.t 80) (.k (.int .i64 4)))), none⟩, ⟨(some 82), (.op (.mv (.t 81))), none⟩, ⟨(some 83), (.op (.faddr 0 (.t 5))), (some (82, true))⟩, ⟨(some 84), (.op (.load (.t 83))), (some (82, true))⟩, ⟨(some 85), (.op (.bin .eql (.t 84) (.k (.int .u8 3)))), (some (82, true))⟩, ⟨(some 86), (.op (.pick (.t 82) (.t 85) (.k (.bool false)))), none⟩, ⟨(some 79), (.op (.mv (.t 86))), none⟩])
  (.cond (.t 79) (.seq (.reg [⟨(some 6), (.op (.mv (.k (.int .i64 4)))), none⟩])
  .ret)
  .skip)))))))))))))
  (.seq (.reg [⟨(some 6), (.op (.mv (.k (.int .i64 0)))), none⟩])
  .ret)))))
def a29 : AF := ⟨87, [(.t 6)], .code b29, none⟩
theorem ok29 : AFOk Try.prog ext 29 a29 := .of Try.func29 (by kernel_rfl) (by kernel_rfl) (by kernel_rfl) (by kernel_rfl)
/-! 30: (*rowlock/norec.Engine).again -/
def b30 : AC :=
  (.seq (.reg [⟨(some 6), (.op (.alloc 41 [(.bool false), (.int .u64 0), (.bool false), (.int .i64 0), (.bool false), (.int .u8 0), (.int .i64 0)])), none⟩])
  (.seq (.seq (.reg [⟨(some 12), (.op (.mv (.t 2))), none⟩, ⟨(some 13), (.op (.nilchk (.t 12))), none⟩, ⟨(some 14), (.op (.faddr 7 (.t 13))), none⟩, ⟨(some 15), (.op (.load (.t 14))), none⟩])
  (.block 0 (.seq (.reg [⟨(some 57), (.op (.bin .eql (.t 15) (.k (.int .i64 4)))), none⟩, ⟨(some 56), (.op (.mv (.t 57))), none⟩])
  (.cond (.t 56) (.seq (.reg [⟨(some 59), (.op (.mv (.t 0))), none⟩, ⟨(some 60), (.op (.nilchk (.t 59))), none⟩, ⟨(some 61), (.op (.faddr 0 (.t 60))), none⟩, ⟨(some 62), (.op (.load (.t 61))), none⟩, ⟨(some 63), (.call (.f 25) [(.t 62)]), none⟩, ⟨(some 58), (.op (.mv (.t 63))), none⟩, ⟨(some 64), (.op (.extract (.t 58) 0)), none⟩, ⟨(some 65), (.op (.extract (.t 58) 1)), none⟩, ⟨(some 7), (.op (.mv (.t 64))), none⟩, ⟨(some 8), (.op (.mv (.t 65))), none⟩])
  (.seq (.seq (.reg [⟨(some 66), (.op (.mv (.t 8))), none⟩, ⟨(some 67), (.op (.bin .neq (.t 66) (.k (.int .i64 0)))), none⟩])
  (.cond (.t 67) (.seq (.reg [⟨(some 69), (.op (.mv (.t 0))), none⟩, ⟨(some 70), (.op (.nilchk (.t 69))), none⟩, ⟨(some 71), (.op (.faddr 0 (.t 70))), none⟩, ⟨(some 72), (.op (.load (.t 71))), none⟩, ⟨(some 73), (.call (.f 39) [(.t 72)]), none⟩, ⟨(some 68), (.op (.mv (.t 73))), none⟩, ⟨(some 74), (.op (.extract (.t 68) 0)), none⟩, ⟨(some 75), (.op (.extract (.t 68) 1)), none⟩, ⟨(some 9), (.op (.mv (.t 74))), none⟩, ⟨(some 10), (.op (.mv (.t 75))), none⟩])
  (.seq (.reg [⟨(some 76), (.op (.mv (.t 9))), none⟩, ⟨(some 77), (.op (.build [(.bool false), (.int .u64 0), (.bool false), (.int .i64 0), (.bool false), (.int .u8 0), (.int .i64 0)] [(2, 1, (.k (.bool true))), (3, 1, (.t 76))])), none⟩, ⟨none, (.op (.store 7 (.t 6) (.t 77))), none⟩])
  .ret))
  .skip))
  (.reg [⟨(some 78), (.op (.mv (.t 2))), none⟩, ⟨(some 79), (.op (.mv (.t 2))), none⟩, ⟨(some 80), (.op (.mv (.t 2))), none⟩, ⟨(some 81), (.op (.mv (.t 7))), none⟩, ⟨(some 82), (.op (.nilchk (.t 78))), none⟩, ⟨(some 83), (.op (.faddr 10 (.t 82))), none⟩, ⟨none, (.op (.store 1 (.t 83) (.t 81))), none⟩, ⟨(some 84), (.op (.nilchk (.t 79))), none⟩, ⟨(some 85), (.op (.faddr 7 (.t 84))), none⟩, ⟨none, (.op (.store 1 (.t 85) (.k (.int .i64 5)))), none⟩, ⟨(some 86), (.op (.nilchk (.t 80))), none⟩, ⟨(some 87), (.op (.faddr 9 (.t 86))), none⟩, ⟨none, (.op (.store 1 (.t 87) (.k (.int .i64 0)))), none⟩])))
  (.seq (.reg [⟨(some 89), (.op (.bin .eql (.t 15) (.k (.int .i64 5)))), none⟩, ⟨(some 88), (.op (.mv (.t 89))), none⟩])
  (.cond (.t 88) (.seq (.reg [⟨(some 90), (.op (.mv (.t 2))), none⟩, ⟨(some 91), (.op (.nilchk (.t 90))), none⟩, ⟨(some 92), (.op (.faddr 0 (.t 91))), none⟩, ⟨(some 93), (.op (.load (.t 92))), none⟩, ⟨(some 94), (.call (.f 46) [(.t 93)]), none⟩, ⟨(some 11), (.op (.mv (.t 94))), none⟩])
  (.seq (.seq (.reg [⟨(some 95), (.op (.mv (.t 2))), none⟩, ⟨(some 96), (.op (.nilchk (.t 95))), none⟩, ⟨(some 97), (.op (.faddr 9 (.t 96))), none⟩, ⟨(some 98), (.op (.load (.t 97))), none⟩, ⟨(some 99), (.op (.mv (.t 11))), none⟩, ⟨(some 100), (.op (.lenS (.t 99))), none⟩, ⟨(some 101), (.op (.bin .eql (.t 98) (.t 100))), none⟩])
  (.cond (.t 101) (.seq (.reg [⟨(some 102), (.op (.mv (.t 2))), none⟩, ⟨(some 103), (.op (.nilchk (.t 102))), none⟩, ⟨(some 104), (.op (.faddr 7 (.t 103))), none⟩, ⟨none, (.op (.store 1 (.t 104) (.k (.int .i64 6)))), none⟩])
  (.exit 0))
  .skip))
  (.seq (.seq (.dreg (.quiet ⟨(some 105), (.op (.mv (.t 0))), none⟩ (.quiet ⟨(some 106), (.op (.nilchk (.t 105))), none⟩ (.quiet ⟨(some 107), (.op (.faddr 1 (.t 106))), none⟩ (.quiet ⟨(some 108), (.op (.load (.t 107))), none⟩ (.quiet ⟨(some 109), (.op (.mv (.t 11))), none⟩ (.quiet ⟨(some 110), (.op (.mv (.t 2))), none⟩ (.quiet ⟨(some 111), (.op (.nilchk (.t 110))), none⟩ (.quiet ⟨(some 112), (.op (.faddr 9 (.t 111))), none⟩ (.quiet ⟨(some 113), (.op (.load (.t 112))), none⟩ (.quiet ⟨(some 114), (.op (.iaddrS 3 (.t 109) (.t 113))), none⟩ (.quiet ⟨(some 115), (.op (.faddr 0 (.t 114))), none⟩ (.quiet ⟨(some 116), (.op (.load (.t 115))), none⟩ (.quiet ⟨(some 117), (.op (.iaddrS 1 (.t 108) (.t 116))), none⟩ (.quiet ⟨(some 118), (.op (.load (.t 117))), none⟩ (.quiet ⟨(some 119), (.op (.mv (.t 11))), none⟩ (.quiet ⟨(some 120), (.op (.mv (.t 2))), none⟩ (.quiet ⟨(some 121), (.op (.nilchk (.t 120))), none⟩ (.quiet ⟨(some 122), (.op (.faddr 9 (.t 121))), none⟩ (.quiet ⟨(some 123), (.op (.load (.t 122))), none⟩ (.quiet ⟨(some 124), (.op (.iaddrS 3 (.t 119) (.t 123))), none⟩ (.quiet ⟨(some 125), (.op (.faddr 1 (.t 124))), none⟩ (.quiet ⟨(some 126), (.op (.load (.t 125))), none⟩ (.loud ⟨(some 127), (.call (.f 47) [(.t 118), (.t 126)]), none⟩ [] (.quiet ⟨(some 128), (.op (.un .not (.t 127))), none⟩ .nil)))))))))))))))))))))))))
  (.cond (.t 128) (.seq (.reg [⟨(some 129), (.op (.mv (.t 0))), none⟩, ⟨(some 130), (.op (.mv (.t 1))), none⟩, ⟨(some 131), (.call (.f 31) [(.t 129), (.t 130), (.k (.int .u8 1))]), none⟩, ⟨none, (.op (.store 7 (.t 6) (.t 131))), none⟩])
  .ret)
  .skip))
  (.reg [⟨(some 132), (.op (.mv (.t 2))), none⟩, ⟨(some 133), (.op (.nilchk (.t 132))), none⟩, ⟨(some 134), (.op (.faddr 9 (.t 133))), none⟩, ⟨(some 135), (.op (.load (.t 134))), none⟩, ⟨(some 136), (.op (.bin .add (.t 135) (.k (.int .i64 1)))), none⟩, ⟨(some 137), (.op (.nilchk (.t 132))), none⟩, ⟨(some 138), (.op (.faddr 9 (.t 137))), none⟩, ⟨none, (.op (.store 1 (.t 138) (.t 136))), none⟩]))))
  (.seq (.reg [⟨(some 16), (.op (.mv (.t 2))), none⟩, ⟨(some 17), (.op (.nilchk (.t 16))), none⟩, ⟨(some 18), (.op (.faddr 7 (.t 17))), none⟩, ⟨none, (.op (.store 1 (.t 18) (.k (.int .i64 4)))), none⟩])
  (.seq (.dreg (.quiet ⟨(some 19), (.op (.mv (.t 0))), none⟩ (.quiet ⟨(some 20), (.op (.nilchk (.t 19))), none⟩ (.quiet ⟨(some 21), (.op (.faddr 0 (.t 20))), none⟩ (.quiet ⟨(some 22), (.op (.load (.t 21))), none⟩ (.quiet ⟨(some 23), (.op (.mv (.t 2))), none⟩ (.quiet ⟨(some 24), (.op (.nilchk (.t 23))), none⟩ (.quiet ⟨(some 25), (.op (.faddr 10 (.t 24))), none⟩ (.quiet ⟨(some 26), (.op (.load (.t 25))), none⟩ (.loud ⟨(some 27), (.call (.f 48) [(.t 22), (.t 26)]), none⟩ [] .nil))))))))))
  (.cond (.t 27) (.seq (.dreg (.quiet ⟨(some 28), (.op (.mv (.t 2))), none⟩ (.quiet ⟨(some 29), (.op (.mv (.t 2))), none⟩ (.quiet ⟨(some 30), (.op (.mv (.t 2))), none⟩ (.quiet ⟨(some 31), (.op (.nilchk (.t 30))), none⟩ (.quiet ⟨(some 32), (.op (.faddr 10 (.t 31))), none⟩ (.quiet ⟨(some 33), (.op (.load (.t 32))), none⟩ (.quiet ⟨(some 34), (.op (.mv (.t 2))), none⟩ (.quiet ⟨(some 35), (.op (.nilchk (.t 34))), none⟩ (.quiet ⟨(some 36), (.op (.faddr 8 (.t 35))), none⟩ (.quiet ⟨(some 37), (.op (.load (.t 36))), none⟩ (.quiet ⟨(some 38), (.op (.nilchk (.t 28))), none⟩ (.quiet ⟨(some 39), (.op (.faddr 3 (.t 38))), none⟩ (.loud ⟨none, (.op (.store 1 (.t 39) (.t 33))), none⟩ [] (.quiet ⟨(some 40), (.op (.nilchk (.t 29))), none⟩ (.quiet ⟨(some 41), (.op (.faddr 7 (.t 40))), none⟩ (.loud ⟨none, (.op (.store 1 (.t 41) (.t 37))), none⟩ [] .nil)))))))))))))))))
  (.dreg (.quiet ⟨(some 42), (.op (.mv (.t 0))), none⟩ (.quiet ⟨(some 43), (.op (.nilchk (.t 42))), none⟩ (.quiet ⟨(some 44), (.op (.faddr 4 (.t 43))), none⟩ (.quiet ⟨(some 45), (.op (.load (.t 44))), none⟩ (.quiet ⟨(some 46), (.op (.mv (.t 2))), none⟩ (.quiet ⟨(some 47), (.op (.nilchk (.t 46))), none⟩ (.quiet ⟨(some 48), (.op (.faddr 2 (.t 47))), none⟩ (.quiet ⟨(some 49), (.op (.load (.t 48))), none⟩ (.quiet ⟨(some 50), (.op (.mv (.t 2))), none⟩ (.quiet ⟨(some 51), (.op (.nilchk (.t 50))), none⟩ (.quiet ⟨(some 52), (.op (.faddr 10 (.t 51))), none⟩ (.quiet ⟨(some 53), (.op (.load (.t 52))), none⟩ (.quiet ⟨(some 54), (.op (.bin .add (.t 53) (.k (.int .u64 1)))), none⟩ (.quiet ⟨(some 55), (.op (.iaddrS 1 (.t 45) (.t 49))), none⟩ (.loud ⟨none, (.op (.store 1 (.t 55) (.t 54))), none⟩ [] .nil)))))))))))))))))
  .skip)))))))))
  (.seq (.reg [⟨(some 139), (.op (.build [(.bool false), (.int .u64 0), (.bool false), (.int .i64 0), (.bool false), (.int .u8 0), (.int .i64 0)] [])), none⟩, ⟨none, (.op (.store 7 (.t 6) (.t 139))), none⟩])
  .ret)))
def a30 : AF := ⟨140, [(.c 6 true 7)], .code b30, none⟩
theorem ok30 : AFOk Try.prog ext 30 a30 := .of Try.func30 (by kernel_rfl) (by kernel_rfl) (by kernel_rfl) (by kernel_rfl)
/-! 31: (*rowlock/norec.Engine).end -/
def b31 : AC :=
  (.seq (.reg [⟨(some 6), (.op (.alloc 41 [(.bool false), (.int .u64 0), (.bool false), (.int .i64 0), (.bool false), (.int .u8 0), (.int .i64 0)])), none⟩])
  (.seq (.reg [⟨(some 8), (.op (.mv (.t 0))), none⟩, ⟨(some 9), (.op (.nilchk (.t 8))), none⟩, ⟨(some 10), (.op (.faddr 2 (.t 9))), none⟩, ⟨(some 11), (.op (.load (.t 10))), none⟩, ⟨(some 12), (.op (.mv (.t 1))), none⟩, ⟨(some 13), (.op (.lookup false (.pointer none) false (.t 11) (.t 12))), none⟩, ⟨(some 7), (.op (.mv (.t 13))), none⟩])
  (.seq (.reg [⟨(some 14), (.op (.mv (.t 0))), none⟩, ⟨(some 15), (.op (.nilchk (.t 14))), none⟩, ⟨(some 16), (.op (.faddr 2 (.t 15))), none⟩, ⟨(some 17), (.op (.load (.t 16))), none⟩, ⟨(some 18), (.op (.mv (.t 1))), none⟩, ⟨none, (.op (.delete false (.t 17) (.t 18))), none⟩])
  (.seq (.reg [⟨(some 19), (.op (.mv (.t 0))), none⟩, ⟨(some 20), (.op (.nilchk (.t 19))), none⟩, ⟨(some 21), (.op (.faddr 0 (.t 20))), none⟩, ⟨(some 22), (.op (.load (.t 21))), none⟩, ⟨(some 23), (.op (.mv (.t 1))), none⟩, ⟨(some 24), (.call (.f 49) [(.t 22), (.t 23)]), none⟩])
  (.seq (.dreg (.quiet ⟨(some 25), (.op (.mv (.t 0))), none⟩ (.quiet ⟨(some 26), (.op (.nilchk (.t 25))), none⟩ (.quiet ⟨(some 27), (.op (.faddr 5 (.t 26))), none⟩ (.quiet ⟨(some 28), (.op (.load (.t 27))), none⟩ (.quiet ⟨(some 29), (.op (.mv (.t 7))), none⟩ (.quiet ⟨(some 30), (.op (.nilchk (.t 29))), none⟩ (.quiet ⟨(some 31), (.op (.faddr 2 (.t 30))), none⟩ (.quiet ⟨(some 32), (.op (.load (.t 31))), none⟩ (.quiet ⟨(some 33), (.op (.mv (.t 2))), none⟩ (.quiet ⟨(some 34), (.op (.iaddrS 1 (.t 28) (.t 32))), none⟩ (.loud ⟨none, (.op (.store 1 (.t 34) (.t 33))), none⟩ [] .nil))))))))))))
  (.seq (.reg [⟨(some 35), (.op (.mv (.t 0))), none⟩, ⟨(some 36), (.op (.mv (.t 7))), none⟩, ⟨(some 37), (.op (.nilchk (.t 36))), none⟩, ⟨(some 38), (.op (.faddr 2 (.t 37))), none⟩, ⟨(some 39), (.op (.load (.t 38))), none⟩, ⟨(some 40), (.op (.build [(.int .u8 0), (.int .i64 0), (.int .i64 0), (.int .u64 0)] [(0, 1, (.k (.int .u8 9))), (1, 1, (.t 39))])), none⟩, ⟨(some 41), (.call (.f 28) [(.t 35), (.t 40)]), none⟩])
  (.seq (.reg [⟨(some 42), (.op (.mv (.t 2))), none⟩, ⟨(some 43), (.op (.build [(.bool false), (.int .u64 0), (.bool false), (.int .i64 0), (.bool false), (.int .u8 0), (.int .i64 0)] [(0, 1, (.k (.bool true))), (4, 1, (.k (.bool true))), (5, 1, (.t 42))])), none⟩, ⟨none, (.op (.store 7 (.t 6) (.t 43))), none⟩])
  .ret)))))))
def a31 : AF := ⟨44, [(.c 6 true 7)], .code b31, none⟩
theorem ok31 : AFOk Try.prog ext 31 a31 := .of Try.func31 (by kernel_rfl) (by kernel_rfl) (by kernel_rfl) (by kernel_rfl)
/-! 32: (*rowlock/norec.Engine).goOn -/
def b32 : AC :=
  (.seq (.reg [⟨(some 6), (.op (.alloc 41 [(.bool false), (.int .u64 0), (.bool false), (.int .i64 0), (.bool false), (.int .u8 0), (.int .i64 0)])), none⟩])
  (.seq (.reg [⟨(some 8), (.op (.mv (.t 2))), none⟩, ⟨(some 9), (.op (.nilchk (.t 8))), none⟩, ⟨(some 10), (.op (.faddr 1 (.t 9))), none⟩, ⟨(some 11), (.op (.load (.t 10))), none⟩, ⟨(some 12), (.call (.f 50) [(.t 11)]), none⟩, ⟨(some 7), (.op (.mv (.t 12))), none⟩])
  (.seq (.seq (.reg [⟨(some 13), (.op (.mv (.t 2))), none⟩, ⟨(some 14), (.op (.nilchk (.t 13))), none⟩, ⟨(some 15), (.op (.faddr 7 (.t 14))), none⟩, ⟨(some 16), (.op (.load (.t 15))), none⟩])
  (.block 0 (.seq (.reg [⟨(some 27), (.op (.bin .eql (.t 16) (.k (.int .i64 0)))), none⟩, ⟨(some 26), (.op (.mv (.t 27))), none⟩])
  (.cond (.t 26) (.seq (.reg [⟨(some 28), (.op (.mv (.t 0))), none⟩, ⟨(some 29), (.op (.mv (.t 2))), none⟩, ⟨(some 30), (.op (.nilchk (.t 29))), none⟩, ⟨(some 31), (.op (.faddr 2 (.t 30))), none⟩, ⟨(some 32), (.op (.load (.t 31))), none⟩, ⟨(some 33), (.op (.build [(.int .u8 0), (.int .i64 0), (.int .i64 0), (.int .u64 0)] [(0, 1, (.k (.int .u8 7))), (1, 1, (.t 32))])), none⟩, ⟨(some 34), (.call (.f 28) [(.t 28), (.t 33)]), none⟩])
  (.seq (.seq (.reg [⟨(some 35), (.op (.mv (.t 7))), none⟩, ⟨(some 36), (.op (.lenS (.t 35))), none⟩, ⟨(some 37), (.op (.bin .eql (.t 36) (.k (.int .i64 0)))), none⟩])
  (.cond (.t 37) (.seq (.reg [⟨(some 38), (.op (.mv (.t 0))), none⟩, ⟨(some 39), (.op (.mv (.t 1))), none⟩, ⟨(some 40), (.call (.f 51) [(.t 38), (.t 39)]), none⟩, ⟨none, (.op (.store 7 (.t 6) (.t 40))), none⟩])
  .ret)
  .skip))
  (.reg [⟨(some 41), (.op (.mv (.t 2))), none⟩, ⟨(some 42), (.op (.nilchk (.t 41))), none⟩, ⟨(some 43), (.op (.faddr 7 (.t 42))), none⟩, ⟨none, (.op (.store 1 (.t 43) (.k (.int .i64 1)))), none⟩])))
  (.seq (.reg [⟨(some 45), (.op (.bin .eql (.t 16) (.k (.int .i64 1)))), none⟩, ⟨(some 44), (.op (.mv (.t 45))), none⟩])
  (.cond (.t 44) (.seq (.dreg (.quiet ⟨(some 46), (.op (.mv (.t 0))), none⟩ (.quiet ⟨(some 47), (.op (.nilchk (.t 46))), none⟩ (.quiet ⟨(some 48), (.op (.faddr 0 (.t 47))), none⟩ (.quiet ⟨(some 49), (.op (.load (.t 48))), none⟩ (.quiet ⟨(some 50), (.op (.mv (.t 1))), none⟩ (.quiet ⟨(some 51), (.op (.mv (.t 2))), none⟩ (.quiet ⟨(some 52), (.op (.nilchk (.t 51))), none⟩ (.quiet ⟨(some 53), (.op (.faddr 3 (.t 52))), none⟩ (.quiet ⟨(some 54), (.op (.load (.t 53))), none⟩ (.loud ⟨(some 55), (.call (.f 52) [(.t 49), (.t 50), (.t 54)]), none⟩ [] .nil)))))))))))
  (.block 1 (.seq (.reg [⟨(some 59), (.op (.bin .eql (.t 55) (.k (.int .i64 0)))), none⟩, ⟨(some 58), (.op (.mv (.t 59))), none⟩])
  (.cond (.t 58) (.seq (.reg [⟨(some 60), (.op (.mv (.t 2))), none⟩, ⟨(some 61), (.op (.mv (.t 2))), none⟩, ⟨(some 62), (.op (.mv (.t 2))), none⟩, ⟨(some 63), (.op (.nilchk (.t 60))), none⟩, ⟨(some 64), (.op (.faddr 12 (.t 63))), none⟩, ⟨none, (.op (.store 1 (.t 64) (.k (.bool true)))), none⟩, ⟨(some 65), (.op (.nilchk (.t 61))), none⟩, ⟨(some 66), (.op (.faddr 7 (.t 65))), none⟩, ⟨none, (.op (.store 1 (.t 66) (.k (.int .i64 2)))), none⟩, ⟨(some 67), (.op (.nilchk (.t 62))), none⟩, ⟨(some 68), (.op (.faddr 9 (.t 67))), none⟩, ⟨none, (.op (.store 1 (.t 68) (.k (.int .i64 0)))), none⟩])
  (.dreg (.quiet ⟨(some 69), (.op (.mv (.t 0))), none⟩ (.quiet ⟨(some 70), (.op (.nilchk (.t 69))), none⟩ (.quiet ⟨(some 71), (.op (.faddr 4 (.t 70))), none⟩ (.quiet ⟨(some 72), (.op (.load (.t 71))), none⟩ (.quiet ⟨(some 73), (.op (.mv (.t 2))), none⟩ (.quiet ⟨(some 74), (.op (.nilchk (.t 73))), none⟩ (.quiet ⟨(some 75), (.op (.faddr 2 (.t 74))), none⟩ (.quiet ⟨(some 76), (.op (.load (.t 75))), none⟩ (.quiet ⟨(some 77), (.op (.mv (.t 2))), none⟩ (.quiet ⟨(some 78), (.op (.nilchk (.t 77))), none⟩ (.quiet ⟨(some 79), (.op (.faddr 3 (.t 78))), none⟩ (.quiet ⟨(some 80), (.op (.load (.t 79))), none⟩ (.quiet ⟨(some 81), (.op (.bin .add (.t 80) (.k (.int .u64 2)))), none⟩ (.quiet ⟨(some 82), (.op (.iaddrS 1 (.t 72) (.t 76))), none⟩ (.loud ⟨none, (.op (.store 1 (.t 82) (.t 81))), none⟩ [] .nil)))))))))))))))))
  (.seq (.reg [⟨(some 84), (.op (.bin .eql (.t 55) (.k (.int .i64 4)))), none⟩, ⟨(some 83), (.op (.mv (.t 84))), none⟩])
  (.cond (.t 83) (.seq (.reg [⟨(some 85), (.op (.mv (.t 0))), none⟩, ⟨(some 86), (.op (.mv (.t 1))), none⟩, ⟨(some 87), (.call (.f 31) [(.t 85), (.t 86), (.k (.int .u8 2))]), none⟩, ⟨none, (.op (.store 7 (.t 6) (.t 87))), none⟩])
  .ret)
  (.seq (.reg [⟨(some 56), (.op (.mv (.t 2))), none⟩, ⟨(some 57), (.call (.f 53) [(.t 56), (.k (.int .i64 1))]), none⟩, ⟨none, (.op (.store 7 (.t 6) (.t 57))), none⟩])
  .ret)))))))
  (.seq (.reg [⟨(some 89), (.op (.bin .eql (.t 16) (.k (.int .i64 2)))), none⟩, ⟨(some 88), (.op (.mv (.t 89))), none⟩])
  (.cond (.t 88) (.seq (.dreg (.quiet ⟨(some 90), (.op (.mv (.t 0))), none⟩ (.quiet ⟨(some 91), (.op (.nilchk (.t 90))), none⟩ (.quiet ⟨(some 92), (.op (.faddr 1 (.t 91))), none⟩ (.quiet ⟨(some 93), (.op (.load (.t 92))), none⟩ (.quiet ⟨(some 94), (.op (.mv (.t 7))), none⟩ (.quiet ⟨(some 95), (.op (.mv (.t 2))), none⟩ (.quiet ⟨(some 96), (.op (.nilchk (.t 95))), none⟩ (.quiet ⟨(some 97), (.op (.faddr 9 (.t 96))), none⟩ (.quiet ⟨(some 98), (.op (.load (.t 97))), none⟩ (.quiet ⟨(some 99), (.op (.iaddrS 2 (.t 94) (.t 98))), none⟩ (.quiet ⟨(some 100), (.op (.faddr 0 (.t 99))), none⟩ (.quiet ⟨(some 101), (.op (.load (.t 100))), none⟩ (.quiet ⟨(some 102), (.op (.mv (.t 7))), none⟩ (.quiet ⟨(some 103), (.op (.mv (.t 2))), none⟩ (.quiet ⟨(some 104), (.op (.nilchk (.t 103))), none⟩ (.quiet ⟨(some 105), (.op (.faddr 9 (.t 104))), none⟩ (.quiet ⟨(some 106), (.op (.load (.t 105))), none⟩ (.quiet ⟨(some 107), (.op (.iaddrS 2 (.t 102) (.t 106))), none⟩ (.quiet ⟨(some 108), (.op (.faddr 1 (.t 107))), none⟩ (.quiet ⟨(some 109), (.op (.load (.t 108))), none⟩ (.quiet ⟨(some 110), (.op (.iaddrS 1 (.t 93) (.t 101))), none⟩ (.loud ⟨none, (.op (.store 1 (.t 110) (.t 109))), none⟩ [] .nil)))))))))))))))))))))))
  (.seq (.reg [⟨(some 111), (.op (.mv (.t 2))), none⟩, ⟨(some 112), (.op (.nilchk (.t 111))), none⟩, ⟨(some 113), (.op (.faddr 9 (.t 112))), none⟩, ⟨(some 114), (.op (.load (.t 113))), none⟩, ⟨(some 115), (.op (.bin .add (.t 114) (.k (.int .i64 1)))), none⟩, ⟨(some 116), (.op (.nilchk (.t 111))), none⟩, ⟨(some 117), (.op (.faddr 9 (.t 116))), none⟩, ⟨none, (.op (.store 1 (.t 117) (.t 115))), none⟩])
  (.seq (.reg [⟨(some 118), (.op (.mv (.t 2))), none⟩, ⟨(some 119), (.op (.nilchk (.t 118))), none⟩, ⟨(some 120), (.op (.faddr 9 (.t 119))), none⟩, ⟨(some 121), (.op (.load (.t 120))), none⟩, ⟨(some 122), (.op (.mv (.t 7))), none⟩, ⟨(some 123), (.op (.lenS (.t 122))), none⟩, ⟨(some 124), (.op (.bin .eql (.t 121) (.t 123))), none⟩])
  (.cond (.t 124) (.reg [⟨(some 125), (.op (.mv (.t 2))), none⟩, ⟨(some 126), (.op (.nilchk (.t 125))), none⟩, ⟨(some 127), (.op (.faddr 7 (.t 126))), none⟩, ⟨none, (.op (.store 1 (.t 127) (.k (.int .i64 3)))), none⟩])
  .skip))))
  (.seq (.reg [⟨(some 17), (.op (.mv (.t 0))), none⟩, ⟨(some 18), (.op (.nilchk (.t 17))), none⟩, ⟨(some 19), (.op (.faddr 0 (.t 18))), none⟩, ⟨(some 20), (.op (.load (.t 19))), none⟩, ⟨(some 21), (.op (.mv (.t 1))), none⟩, ⟨(some 22), (.call (.f 54) [(.t 20), (.t 21)]), none⟩])
  (.seq (.reg [⟨(some 23), (.op (.mv (.t 0))), none⟩, ⟨(some 24), (.op (.mv (.t 1))), none⟩, ⟨(some 25), (.call (.f 51) [(.t 23), (.t 24)]), none⟩, ⟨none, (.op (.store 7 (.t 6) (.t 25))), none⟩])
  .ret))))))))))
  (.seq (.reg [⟨(some 128), (.op (.build [(.bool false), (.int .u64 0), (.bool false), (.int .i64 0), (.bool false), (.int .u8 0), (.int .i64 0)] [])), none⟩, ⟨none, (.op (.store 7 (.t 6) (.t 128))), none⟩])
  .ret))))
def a32 : AF := ⟨129, [(.c 6 true 7)], .code b32, none⟩
theorem ok32 : AFOk Try.prog ext 32 a32 := .of Try.func32 (by kernel_rfl) (by kernel_rfl) (by kernel_rfl) (by kernel_rfl)
/-! 33: (*rowlock/writes.Log).Get -/
def b33 : AC :=
  (.seq (.reg [⟨(some 3), (.op (.box 3 (.t 1))), none⟩, ⟨(some 4), (.op (.alloc 30 [(.int .u64 0)])), none⟩, ⟨(some 5), (.op (.alloc 4 [(.bool false)])), none⟩])
  (.seq (.seq (.reg [⟨(some 9), (.op (.mv (.t 0))), none⟩, ⟨(some 10), (.op (.eq false .ptr (.t 9) (.k (.pointer none)))), none⟩])
  (.cond (.t 10) (.seq (.reg [⟨none, (.op (.store 1 (.t 4) (.k (.int .u64 0)))), none⟩, ⟨none, (.op (.store 1 (.t 5) (.k (.bool false)))), none⟩])
  .ret)
  .skip))
  (.seq (.seq (.reg [⟨(some 11), (.op (.mv (.t 0))), none⟩, ⟨(some 12), (.op (.nilchk (.t 11))), none⟩, ⟨(some 13), (.op (.faddr 0 (.t 12))), none⟩, ⟨(some 14), (.op (.load (.t 13))), none⟩, ⟨(some 15), (.call (.f 55) [(.t 14)]), none⟩])
  (.block 0 (.rfunc (.t 15) [16] (.reg [⟨(some 6), (.op (.mv (.t 16))), none⟩])
   (.block 1 (.seq (.reg [⟨(some 18), (.op (.mv (.t 6))), none⟩, ⟨(some 19), (.op (.load (.t 3))), none⟩, ⟨(some 20), (.call (.f 56) [(.t 18), (.t 19)]), none⟩, ⟨(some 17), (.op (.mv (.t 20))), none⟩, ⟨(some 21), (.op (.extract (.t 17) 0)), none⟩, ⟨(some 22), (.op (.extract (.t 17) 1)), none⟩, ⟨(some 7), (.op (.mv (.t 21))), none⟩, ⟨(some 8), (.op (.mv (.t 22))), none⟩])
   (.seq (.reg [⟨(some 23), (.op (.mv (.t 8))), none⟩])
   (.cond (.t 23) (.seq (.reg [⟨(some 24), (.op (.mv (.t 7))), none⟩, ⟨none, (.op (.store 1 (.t 4) (.t 24))), none⟩, ⟨none, (.op (.store 1 (.t 5) (.k (.bool true)))), none⟩])
   .ret)
   .skip)))))))
  (.seq (.reg [⟨none, (.op (.store 1 (.t 4) (.k (.int .u64 0)))), none⟩, ⟨none, (.op (.store 1 (.t 5) (.k (.bool false)))), none⟩])
  .ret))))
def a33 : AF := ⟨25, [(.c 4 false 1), (.c 5 false 1)], .code b33, none⟩
theorem ok33 : AFOk Try.prog ext 33 a33 := .of Try.func33 (by kernel_rfl) (by kernel_rfl) (by kernel_rfl) (by kernel_rfl)
/-! 34: (*rowlock/norec.Engine).got -/
def b34 : AC :=
  (.seq (.reg [⟨(some 6), (.op (.alloc 41 [(.bool false), (.int .u64 0), (.bool false), (.int .i64 0), (.bool false), (.int .u8 0), (.int .i64 0)])), none⟩])
  (.seq (.dreg (.quiet ⟨(some 7), (.op (.mv (.t 0))), none⟩ (.quiet ⟨(some 8), (.op (.mv (.t 1))), none⟩ (.quiet ⟨(some 9), (.op (.nilchk (.t 8))), none⟩ (.quiet ⟨(some 10), (.op (.faddr 2 (.t 9))), none⟩ (.quiet ⟨(some 11), (.op (.load (.t 10))), none⟩ (.quiet ⟨(some 12), (.op (.mv (.t 1))), none⟩ (.quiet ⟨(some 13), (.op (.nilchk (.t 12))), none⟩ (.quiet ⟨(some 14), (.op (.faddr 4 (.t 13))), none⟩ (.quiet ⟨(some 15), (.op (.faddr 1 (.t 14))), none⟩ (.quiet ⟨(some 16), (.op (.load (.t 15))), none⟩ (.quiet ⟨(some 17), (.op (.mv (.t 2))), none⟩ (.quiet ⟨(some 18), (.op (.build [(.int .u8 0), (.int .i64 0), (.int .i64 0), (.int .u64 0)] [(0, 1, (.k (.int .u8 2))), (1, 1, (.t 11)), (2, 1, (.t 16)), (3, 1, (.t 17))])), none⟩ (.loud ⟨(some 19), (.call (.f 28) [(.t 7), (.t 18)]), none⟩ [] .nil))))))))))))))
  (.seq (.reg [⟨(some 20), (.op (.mv (.t 1))), none⟩, ⟨(some 21), (.op (.mv (.t 2))), none⟩, ⟨(some 22), (.call (.f 57) [(.t 20), (.t 21)]), none⟩, ⟨none, (.op (.store 7 (.t 6) (.t 22))), none⟩])
  .ret)))
def a34 : AF := ⟨23, [(.c 6 true 7)], .code b34, none⟩
theorem ok34 : AFOk Try.prog ext 34 a34 := .of Try.func34 (by kernel_rfl) (by kernel_rfl) (by kernel_rfl) (by kernel_rfl)
/-! 35: (*rowlock/norec.Engine).read -/
def b35 : AC :=
  (.seq (.reg [⟨(some 6), (.op (.alloc 41 [(.bool false), (.int .u64 0), (.bool false), (.int .i64 0), (.bool false), (.int .u8 0), (.int .i64 0)])), none⟩])
  (.seq (.reg [⟨(some 8), (.op (.mv (.t 2))), none⟩, ⟨(some 9), (.op (.nilchk (.t 8))), none⟩, ⟨(some 10), (.op (.faddr 4 (.t 9))), none⟩, ⟨(some 11), (.op (.faddr 1 (.t 10))), none⟩, ⟨(some 12), (.op (.load (.t 11))), none⟩, ⟨(some 7), (.op (.mv (.t 12))), none⟩])
  (.seq (.block 0 (.seq (.reg [⟨(some 14), (.op (.mv (.t 2))), none⟩, ⟨(some 15), (.op (.nilchk (.t 14))), none⟩, ⟨(some 16), (.op (.faddr 7 (.t 15))), none⟩, ⟨(some 17), (.op (.load (.t 16))), none⟩, ⟨(some 18), (.op (.bin .eql (.t 17) (.k (.int .i64 0)))), none⟩, ⟨(some 13), (.op (.mv (.t 18))), none⟩])
  (.cond (.t 13) (.seq (.reg [⟨(some 19), (.op (.mv (.t 2))), none⟩, ⟨(some 20), (.op (.mv (.t 2))), none⟩, ⟨(some 21), (.op (.mv (.t 0))), none⟩, ⟨(some 22), (.op (.nilchk (.t 21))), none⟩, ⟨(some 23), (.op (.faddr 1 (.t 22))), none⟩, ⟨(some 24), (.op (.load (.t 23))), none⟩, ⟨(some 25), (.op (.mv (.t 7))), none⟩, ⟨(some 26), (.op (.iaddrS 1 (.t 24) (.t 25))), none⟩, ⟨(some 27), (.op (.load (.t 26))), none⟩, ⟨(some 28), (.op (.nilchk (.t 19))), none⟩, ⟨(some 29), (.op (.faddr 11 (.t 28))), none⟩, ⟨none, (.op (.store 1 (.t 29) (.t 27))), none⟩, ⟨(some 30), (.op (.nilchk (.t 20))), none⟩, ⟨(some 31), (.op (.faddr 7 (.t 30))), none⟩, ⟨none, (.op (.store 1 (.t 31) (.k (.int .i64 1)))), none⟩])
  (.seq (.reg [⟨(some 32), (.op (.build [(.bool false), (.int .u64 0), (.bool false), (.int .i64 0), (.bool false), (.int .u8 0), (.int .i64 0)] [])), none⟩, ⟨none, (.op (.store 7 (.t 6) (.t 32))), none⟩])
  .ret))
  (.seq (.dreg (.quiet ⟨(some 34), (.op (.mv (.t 0))), none⟩ (.quiet ⟨(some 35), (.op (.nilchk (.t 34))), none⟩ (.quiet ⟨(some 36), (.op (.faddr 0 (.t 35))), none⟩ (.quiet ⟨(some 37), (.op (.load (.t 36))), none⟩ (.quiet ⟨(some 38), (.op (.mv (.t 2))), none⟩ (.quiet ⟨(some 39), (.op (.nilchk (.t 38))), none⟩ (.quiet ⟨(some 40), (.op (.faddr 3 (.t 39))), none⟩ (.quiet ⟨(some 41), (.op (.load (.t 40))), none⟩ (.loud ⟨(some 42), (.call (.f 48) [(.t 37), (.t 41)]), none⟩ [] (.quiet ⟨(some 43), (.op (.un .not (.t 42))), none⟩ (.loud ⟨(some 33), (.op (.mv (.t 43))), none⟩ [] .nil))))))))))))
  (.cond (.t 33) (.seq (.reg [⟨(some 44), (.op (.mv (.t 2))), none⟩, ⟨(some 45), (.call (.f 53) [(.t 44), (.k (.int .i64 0))]), none⟩, ⟨none, (.op (.store 7 (.t 6) (.t 45))), none⟩])
  .ret)
  (.seq (.dreg (.quiet ⟨(some 47), (.op (.mv (.t 2))), none⟩ (.quiet ⟨(some 48), (.op (.nilchk (.t 47))), none⟩ (.quiet ⟨(some 49), (.op (.faddr 0 (.t 48))), none⟩ (.quiet ⟨(some 50), (.op (.load (.t 49))), none⟩ (.quiet ⟨(some 51), (.op (.mv (.t 7))), none⟩ (.quiet ⟨(some 52), (.op (.mv (.t 2))), none⟩ (.quiet ⟨(some 53), (.op (.nilchk (.t 52))), none⟩ (.quiet ⟨(some 54), (.op (.faddr 11 (.t 53))), none⟩ (.quiet ⟨(some 55), (.op (.load (.t 54))), none⟩ (.quiet ⟨(some 56), (.op (.build [(.int .i64 0), (.int .u64 0), (.int .u64 0)] [(0, 1, (.t 51)), (1, 1, (.t 55))])), none⟩ (.loud ⟨(some 57), (.call (.f 58) [(.t 50), (.t 56)]), none⟩ [] (.quiet ⟨(some 58), (.op (.bin .neq (.t 57) (.k (.int .i64 0)))), none⟩ (.loud ⟨(some 46), (.op (.mv (.t 58))), none⟩ [] .nil))))))))))))))
  (.cond (.t 46) (.seq (.reg [⟨(some 59), (.op (.mv (.t 0))), none⟩, ⟨(some 60), (.op (.mv (.t 1))), none⟩, ⟨(some 61), (.call (.f 31) [(.t 59), (.t 60), (.k (.int .u8 2))]), none⟩, ⟨none, (.op (.store 7 (.t 6) (.t 61))), none⟩])
  .ret)
  .skip)))))))
  (.seq (.reg [⟨(some 62), (.op (.mv (.t 0))), none⟩, ⟨(some 63), (.op (.mv (.t 2))), none⟩, ⟨(some 64), (.op (.mv (.t 2))), none⟩, ⟨(some 65), (.op (.nilchk (.t 64))), none⟩, ⟨(some 66), (.op (.faddr 11 (.t 65))), none⟩, ⟨(some 67), (.op (.load (.t 66))), none⟩, ⟨(some 68), (.call (.f 34) [(.t 62), (.t 63), (.t 67)]), none⟩, ⟨none, (.op (.store 7 (.t 6) (.t 68))), none⟩])
  .ret))))
def a35 : AF := ⟨69, [(.c 6 true 7)], .code b35, none⟩
theorem ok35 : AFOk Try.prog ext 35 a35 := .of Try.func35 (by kernel_rfl) (by kernel_rfl) (by kernel_rfl) (by kernel_rfl)
/-! 36: (*rowlock/norec.Engine).turn -/
def b36 : AC :=
  (.seq (.reg [⟨(some 6), (.op (.alloc 41 [(.bool false), (.int .u64 0), (.bool false), (.int .i64 0), (.bool false), (.int .u8 0), (.int .i64 0)])), none⟩])
  (.seq (.reg [⟨(some 8), (.op (.mv (.t 2))), none⟩, ⟨(some 9), (.op (.nilchk (.t 8))), none⟩, ⟨(some 10), (.op (.faddr 2 (.t 9))), none⟩, ⟨(some 11), (.op (.load (.t 10))), none⟩, ⟨(some 12), (.op (.build [(.int .u8 0), (.int .i64 0), (.int .i64 0), (.int .u64 0)] [(1, 1, (.t 11))])), none⟩, ⟨(some 7), (.op (.alloc 78 [(.int .u8 0), (.int .i64 0), (.int .i64 0), (.int .u64 0)])), none⟩, ⟨none, (.op (.store 4 (.t 7) (.t 12))), none⟩])
  (.seq (.seq (.reg [⟨(some 13), (.op (.mv (.t 2))), none⟩, ⟨(some 14), (.op (.nilchk (.t 13))), none⟩, ⟨(some 15), (.op (.faddr 4 (.t 14))), none⟩, ⟨(some 16), (.op (.faddr 0 (.t 15))), none⟩, ⟨(some 17), (.op (.load (.t 16))), none⟩])
  (.block 0 (.seq (.block 5 (.block 4 (.seq (.block 3 (.seq (.block 2 (.seq (.block 1 (.seq (.seq (.seq (.reg [⟨(some 19), (.op (.bin .eql (.t 17) (.k (.int .u8 3)))), none⟩, ⟨(some 18), (.op (.mv (.t 19))), none⟩])
  (.cond (.t 18) (.exit 1)
  .skip))
  (.seq (.seq (.reg [⟨(some 21), (.op (.bin .eql (.t 17) (.k (.int .u8 4)))), none⟩, ⟨(some 20), (.op (.mv (.t 21))), none⟩])
  (.cond (.t 20) (.exit 2)
  .skip))
  (.seq (.seq (.reg [⟨(some 23), (.op (.bin .eql (.t 17) (.k (.int .u8 5)))), none⟩, ⟨(some 22), (.op (.mv (.t 23))), none⟩])
  (.cond (.t 22) (.exit 3)
  .skip))
  (.seq (.reg [⟨(some 25), (.op (.bin .eql (.t 17) (.k (.int .u8 2)))), none⟩, ⟨(some 24), (.op (.mv (.t 25))), none⟩])
  (.cond (.t 24) (.exit 4)
  .skip)))))
  (.exit 5)))
  (.seq (.seq (.reg [⟨(some 26), (.op (.faddr 0 (.t 7))), none⟩, ⟨none, (.op (.store 1 (.t 26) (.k (.int .u8 4)))), none⟩])
  (.reg [⟨(some 27), (.op (.mv (.t 2))), none⟩, ⟨(some 28), (.op (.nilchk (.t 27))), none⟩, ⟨(some 29), (.op (.faddr 1 (.t 28))), none⟩, ⟨(some 30), (.op (.load (.t 29))), none⟩, ⟨(some 31), (.call (.f 59) [(.t 30)]), none⟩]))
  (.exit 0))))
  (.seq (.seq (.reg [⟨(some 32), (.op (.faddr 0 (.t 7))), none⟩, ⟨none, (.op (.store 1 (.t 32) (.k (.int .u8 5)))), none⟩])
  (.reg [⟨(some 33), (.op (.mv (.t 2))), none⟩, ⟨(some 34), (.op (.nilchk (.t 33))), none⟩, ⟨(some 35), (.op (.faddr 1 (.t 34))), none⟩, ⟨(some 36), (.op (.load (.t 35))), none⟩, ⟨(some 37), (.call (.f 60) [(.t 36)]), none⟩]))
  (.exit 0))))
  (.seq (.seq (.reg [⟨(some 38), (.op (.faddr 0 (.t 7))), none⟩, ⟨none, (.op (.store 1 (.t 38) (.k (.int .u8 6)))), none⟩])
  (.reg [⟨(some 39), (.op (.mv (.t 2))), none⟩, ⟨(some 40), (.op (.nilchk (.t 39))), none⟩, ⟨(some 41), (.op (.faddr 1 (.t 40))), none⟩, ⟨(some 42), (.op (.load (.t 41))), none⟩, ⟨(some 43), (.call (.f 61) [(.t 42)]), none⟩]))
  (.exit 0)))))
  (.seq (.seq (.dreg (.quiet ⟨(some 44), (.op (.mv (.t 2))), none⟩ (.quiet ⟨(some 45), (.op (.nilchk (.t 44))), none⟩ (.quiet ⟨(some 46), (.op (.faddr 4 (.t 45))), none⟩ (.quiet ⟨(some 47), (.op (.faddr 1 (.t 46))), none⟩ (.quiet ⟨(some 48), (.op (.load (.t 47))), none⟩ (.quiet ⟨(some 49), (.op (.mv (.t 2))), none⟩ (.quiet ⟨(some 50), (.op (.nilchk (.t 49))), none⟩ (.quiet ⟨(some 51), (.op (.faddr 4 (.t 50))), none⟩ (.quiet ⟨(some 52), (.op (.faddr 2 (.t 51))), none⟩ (.quiet ⟨(some 53), (.op (.load (.t 52))), none⟩ (.quiet ⟨(some 54), (.op (.faddr 0 (.t 7))), none⟩ (.loud ⟨none, (.op (.store 1 (.t 54) (.k (.int .u8 3)))), none⟩ [⟨(some 53), (.op (.load (.t 52))), none⟩, ⟨(some 48), (.op (.load (.t 47))), none⟩] (.quiet ⟨(some 55), (.op (.faddr 2 (.t 7))), none⟩ (.loud ⟨none, (.op (.store 1 (.t 55) (.t 48))), none⟩ [⟨(some 53), (.op (.load (.t 52))), none⟩] (.quiet ⟨(some 56), (.op (.faddr 3 (.t 7))), none⟩ (.loud ⟨none, (.op (.store 1 (.t 56) (.t 53))), none⟩ [] .nil)))))))))))))))))
  (.seq (.dreg (.quiet ⟨(some 57), (.op (.mv (.t 2))), none⟩ (.quiet ⟨(some 58), (.op (.nilchk (.t 57))), none⟩ (.quiet ⟨(some 59), (.op (.faddr 1 (.t 58))), none⟩ (.quiet ⟨(some 60), (.op (.load (.t 59))), none⟩ (.quiet ⟨(some 61), (.op (.faddr 2 (.t 7))), none⟩ (.quiet ⟨(some 62), (.op (.load (.t 61))), none⟩ (.quiet ⟨(some 63), (.op (.faddr 3 (.t 7))), none⟩ (.quiet ⟨(some 64), (.op (.load (.t 63))), none⟩ (.loud ⟨(some 65), (.call (.f 62) [(.t 60), (.t 62), (.t 64)]), none⟩ [] (.quiet ⟨(some 66), (.op (.bin .neq (.t 65) (.k (.int .i64 0)))), none⟩ .nil)))))))))))
  (.cond (.t 66) (.seq (.reg [⟨(some 67), (.op (.mv (.t 0))), none⟩, ⟨(some 68), (.op (.mv (.t 1))), none⟩, ⟨(some 69), (.call (.f 31) [(.t 67), (.t 68), (.k (.int .u8 2))]), none⟩, ⟨none, (.op (.store 7 (.t 6) (.t 69))), none⟩])
  .ret)
  .skip)))
  (.exit 0)))))
  (.seq (.reg [⟨(some 70), (.op (.mv (.t 0))), none⟩, ⟨(some 71), (.op (.loadN 4 (.t 7))), none⟩, ⟨(some 72), (.call (.f 28) [(.t 70), (.t 71)]), none⟩])
  (.seq (.reg [⟨(some 73), (.op (.mv (.t 2))), none⟩, ⟨(some 74), (.call (.f 57) [(.t 73), (.k (.int .u64 0))]), none⟩, ⟨none, (.op (.store 7 (.t 6) (.t 74))), none⟩])
  .ret)))))
def a36 : AF := ⟨75, [(.c 6 true 7)], .code b36, none⟩
theorem ok36 : AFOk Try.prog ext 36 a36 := .of Try.func36 (by kernel_rfl) (by kernel_rfl) (by kernel_rfl) (by kernel_rfl)
/-! 37: (*rowlock/seqlock.Lock).Count -/
def b37 : AC :=
  (.seq (.reg [⟨(some 2), (.op (.mv (.k (.int .u64 0)))), none⟩])
  (.seq (.seq (.reg [⟨(some 3), (.op (.mv (.t 0))), none⟩, ⟨(some 4), (.op (.eq false .ptr (.t 3) (.k (.pointer none)))), none⟩])
  (.cond (.t 4) (.seq (.reg [⟨(some 2), (.op (.mv (.k (.int .u64 0)))), none⟩])
  .ret)
  .skip))
  (.seq (.reg [⟨(some 5), (.op (.mv (.t 0))), none⟩, ⟨(some 6), (.op (.nilchk (.t 5))), none⟩, ⟨(some 7), (.op (.faddr 1 (.t 6))), none⟩, ⟨(some 8), (.op (.load (.t 7))), none⟩, ⟨(some 2), (.op (.mv (.t 8))), none⟩])
  .ret)))
def a37 : AF := ⟨9, [(.t 2)], .code b37, none⟩
theorem ok37 : AFOk Try.prog ext 37 a37 := .of Try.func37 (by kernel_rfl) (by kernel_rfl) (by kernel_rfl) (by kernel_rfl)
/-! 38: (*rowlock/norec.Engine).of -/
def b38 : AC :=
  (.seq (.reg [⟨(some 4), (.op (.mv (.k (.pointer none)))), none⟩])
  (.seq (.seq (.reg [⟨(some 5), (.op (.mv (.t 0))), none⟩, ⟨(some 6), (.op (.eq false .ptr (.t 5) (.k (.pointer none)))), none⟩])
  (.cond (.t 6) (.seq (.reg [⟨(some 4), (.op (.mv (.k (.pointer none)))), none⟩])
  .ret)
  .skip))
  (.seq (.reg [⟨(some 7), (.op (.mv (.t 0))), none⟩, ⟨(some 8), (.op (.nilchk (.t 7))), none⟩, ⟨(some 9), (.op (.faddr 2 (.t 8))), none⟩, ⟨(some 10), (.op (.load (.t 9))), none⟩, ⟨(some 11), (.op (.mv (.t 1))), none⟩, ⟨(some 12), (.op (.lookup false (.pointer none) false (.t 10) (.t 11))), none⟩, ⟨(some 4), (.op (.mv (.t 12))), none⟩])
  .ret)))
def a38 : AF := ⟨13, [(.t 4)], .code b38, none⟩
theorem ok38 : AFOk Try.prog ext 38 a38 := .of Try.func38 (by kernel_rfl) (by kernel_rfl) (by kernel_rfl) (by kernel_rfl)
/-! 39: (*rowlock/seqlock.Lock).Owner -/
def b39 : AC :=
  (.seq (.reg [⟨(some 2), (.op (.mv (.k (.int .i64 0)))), none⟩, ⟨(some 3), (.op (.mv (.k (.bool false)))), none⟩])
  (.seq (.seq (.reg [⟨(some 4), (.op (.mv (.t 0))), none⟩, ⟨(some 5), (.op (.eq false .ptr (.t 4) (.k (.pointer none)))), none⟩, ⟨(some 6), (.op (.mv (.t 5))), none⟩, ⟨(some 7), (.op (.mv (.t 0))), (some (6, false))⟩, ⟨(some 8), (.op (.nilchk (.t 7))), (some (6, false))⟩, ⟨(some 9), (.op (.faddr 0 (.t 8))), (some (6, false))⟩, ⟨(some 10), (.op (.load (.t 9))), (some (6, false))⟩, ⟨(some 11), (.op (.eq false .ptr (.t 10) (.k (.pointer none)))), (some (6, false))⟩, ⟨(some 12), (.op (.pick (.t 6) (.k (.bool true)) (.t 11))), none⟩])
  (.cond (.t 12) (.seq (.reg [⟨(some 2), (.op (.mv (.k (.int .i64 0)))), none⟩, ⟨(some 3), (.op (.mv (.k (.bool false)))), none⟩])
  .ret)
  .skip))
  (.seq (.reg [⟨(some 13), (.op (.mv (.t 0))), none⟩, ⟨(some 14), (.op (.nilchk (.t 13))), none⟩, ⟨(some 15), (.op (.faddr 0 (.t 14))), none⟩, ⟨(some 16), (.op (.load (.t 15))), none⟩, ⟨(some 17), (.op (.nilchk (.t 16))), none⟩, ⟨(some 18), (.op (.load (.t 17))), none⟩, ⟨(some 2), (.op (.mv (.t 18))), none⟩, ⟨(some 3), (.op (.mv (.k (.bool true)))), none⟩])
  .ret)))
def a39 : AF := ⟨19, [(.t 2), (.t 3)], .code b39, none⟩
theorem ok39 : AFOk Try.prog ext 39 a39 := .of Try.func39 (by kernel_rfl) (by kernel_rfl) (by kernel_rfl) (by kernel_rfl)
/-! 40: slices.Clone[[]rowlock/api.Event,rowlock/api.Event] -/
def b40 : AC :=
  (.seq (.reg [⟨(some 2), (.op (.mv (.k (.slice none 0 0)))), none⟩])
  (.seq (.seq (.reg [⟨(some 3), (.op (.mv (.t 0))), none⟩, ⟨(some 4), (.isnil false (.t 3)), none⟩])
  (.cond (.t 4) (.seq (.reg [⟨(some 2), (.op (.mv (.k (.slice none 0 0)))), none⟩])
  .ret)
  .skip))
  (.seq (.reg [⟨(some 5), (.op (.bslice 78 [] 0 [])), none⟩, ⟨(some 6), (.op (.mv (.t 0))), none⟩, ⟨(some 7), (.op (.append 78 4 32 (.t 5) (.t 6))), none⟩, ⟨(some 2), (.op (.mv (.t 7))), none⟩])
  .ret)))
def a40 : AF := ⟨8, [(.t 2)], .code b40, none⟩
theorem ok40 : AFOk Try.prog ext 40 a40 := .of Try.func40 (by kernel_rfl) (by kernel_rfl) (by kernel_rfl) (by kernel_rfl)
/-! 41: rowlock/seqlock.attempt -/
def b41 : AB :=
  (.thn (.reg [⟨(some 2), (.op (.alloc 35 [(.int .i64 0)])), none⟩])
  (.dfr [⟨(some 3), (.op (.mkfunc 63 [] [(.t 2)])), none⟩] (.t 3)
  (.seq (.reg [⟨(some 4), (.op (.mv (.t 0))), none⟩, ⟨(some 5), (.call (.t 4) []), none⟩])
  (.seq (.reg [⟨none, (.op (.store 1 (.t 2) (.k (.int .i64 0)))), none⟩])
  .ret))))
def a41 : AF := ⟨6, [(.c 2 false 1)], b41, none⟩
theorem ok41 : AFOk Try.prog ext 41 a41 := .of Try.func41 (by kernel_rfl) (by kernel_rfl) (by kernel_rfl) (by kernel_rfl)
/-! 42: (*rowlock/seqlock.Lock).Snapshot$1 -/
def b42 : AC :=
  (.seq (.reg [⟨(some 2), (.op (.load (.t 0))), none⟩, ⟨(some 3), (.op (.eq true .ptr (.t 2) (.k (.pointer none)))), none⟩, ⟨(some 4), (.call (.f 43) [(.t 3), (.k (.int .i64 1))]), none⟩])
  (.seq (.reg [⟨(some 5), (.op (.load (.t 0))), none⟩, ⟨(some 6), (.op (.nilchk (.t 5))), none⟩, ⟨(some 7), (.op (.faddr 0 (.t 6))), none⟩, ⟨(some 8), (.op (.load (.t 7))), none⟩, ⟨(some 9), (.op (.eq false .ptr (.t 8) (.k (.pointer none)))), none⟩, ⟨(some 10), (.call (.f 43) [(.t 9), (.k (.int .i64 7))]), none⟩])
  (.reg [⟨(some 11), (.op (.load (.t 0))), none⟩, ⟨(some 12), (.op (.nilchk (.t 11))), none⟩, ⟨(some 13), (.op (.faddr 1 (.t 12))), none⟩, ⟨(some 14), (.op (.load (.t 13))), none⟩, ⟨none, (.op (.store 1 (.t 1) (.t 14))), none⟩])))
def a42 : AF := ⟨15, [], .code b42, none⟩
theorem ok42 : AFOk Try.prog ext 42 a42 := .of Try.func42 (by kernel_rfl) (by kernel_rfl) (by kernel_rfl) (by kernel_rfl)
/-! 43: rowlock/seqlock.need -/
def b43 : AC :=
  (.seq (.reg [⟨(some 4), (.op (.mv (.t 0))), none⟩, ⟨(some 5), (.op (.un .not (.t 4))), none⟩])
  (.cond (.t 5) (.reg [⟨(some 6), (.op (.mv (.t 1))), none⟩, ⟨(some 7), (.op (.build [(.int .i64 0)] [(0, 1, (.t 6))])), none⟩, ⟨(some 8), (.op (.mkiface 123 (.t 7))), none⟩, ⟨none, (.panic (.t 8)), none⟩])
  .skip))
def a43 : AF := ⟨9, [], .code b43, none⟩
theorem ok43 : AFOk Try.prog ext 43 a43 := .of Try.func43 (by kernel_rfl) (by kernel_rfl) (by kernel_rfl) (by kernel_rfl)
/-! 44: (*rowlock/writes.stack[rowlock/writes.frame]).push -/
def b44 : AC :=
  (.seq (.reg [⟨(some 4), (.op (.mv (.k (.pointer none)))), none⟩])
  (.seq (.reg [⟨(some 5), (.op (.mv (.t 1))), none⟩, ⟨(some 6), (.op (.mv (.t 0))), none⟩, ⟨(some 7), (.op (.build [(.slice none 0 0), (.pointer none)] [(0, 1, (.t 5)), (1, 1, (.t 6))])), none⟩, ⟨(some 8), (.op (.box 125 (.t 7))), none⟩, ⟨(some 4), (.op (.mv (.t 8))), none⟩])
  .ret))
def a44 : AF := ⟨9, [(.t 4)], .code b44, none⟩
theorem ok44 : AFOk Try.prog ext 44 a44 := .of Try.func44 (by kernel_rfl) (by kernel_rfl) (by kernel_rfl) (by kernel_rfl)
/-! 45: (*rowlock/writes.Log).Depth -/
def b45 : AC :=
  (.seq (.reg [⟨(some 2), (.op (.mv (.k (.int .i64 0)))), none⟩])
  (.seq (.seq (.reg [⟨(some 3), (.op (.mv (.t 0))), none⟩, ⟨(some 4), (.op (.eq false .ptr (.t 3) (.k (.pointer none)))), none⟩])
  (.cond (.t 4) (.seq (.reg [⟨(some 2), (.op (.mv (.k (.int .i64 0)))), none⟩])
  .ret)
  .skip))
  (.seq (.reg [⟨(some 5), (.op (.mv (.t 0))), none⟩, ⟨(some 6), (.op (.nilchk (.t 5))), none⟩, ⟨(some 7), (.op (.faddr 1 (.t 6))), none⟩, ⟨(some 8), (.op (.load (.t 7))), none⟩, ⟨(some 2), (.op (.mv (.t 8))), none⟩])
  .ret)))
def a45 : AF := ⟨9, [(.t 2)], .code b45, none⟩
theorem ok45 : AFOk Try.prog ext 45 a45 := .of Try.func45 (by kernel_rfl) (by kernel_rfl) (by kernel_rfl) (by kernel_rfl)
/-! 46: (*rowlock/reads.Set).List -/
def b46 : AC :=
  (.seq (.reg [⟨(some 2), (.op (.mv (.k (.slice none 0 0)))), none⟩])
  (.seq (.seq (.reg [⟨(some 6), (.op (.mv (.t 0))), none⟩, ⟨(some 7), (.op (.eq false .ptr (.t 6) (.k (.pointer none)))), none⟩])
  (.cond (.t 7) (.seq (.reg [⟨(some 2), (.op (.mv (.k (.slice none 0 0)))), none⟩])
  .ret)
  .skip))
  (.seq (.reg [⟨(some 3), (.op (.mv (.k (.slice none 0 0)))), none⟩])
  (.seq (.seq (.reg [⟨(some 8), (.op (.mv (.t 0))), none⟩, ⟨(some 9), (.op (.nilchk (.t 8))), none⟩, ⟨(some 10), (.op (.faddr 0 (.t 9))), none⟩, ⟨(some 11), (.op (.load (.t 10))), none⟩, ⟨(some 12), (.op (.lenS (.t 11))), none⟩, ⟨(some 13), (.op (.mv (.k (.int .i64 0)))), none⟩])
  (.block 0 (.loop (.seq (.reg [⟨(some 14), (.op (.bin .lss (.t 13) (.t 12))), none⟩])
   (.seq (.cond (.t 14) .skip
   (.exit 0))
   (.seq (.block 1 (.seq (.reg [⟨(some 15), (.op (.iaddrS 1 (.t 11) (.t 13))), none⟩, ⟨(some 16), (.op (.load (.t 15))), none⟩, ⟨(some 5), (.op (.mv (.t 16))), none⟩])
   (.reg [⟨(some 17), (.op (.mv (.t 3))), none⟩, ⟨(some 18), (.op (.mv (.t 0))), none⟩, ⟨(some 19), (.op (.nilchk (.t 18))), none⟩, ⟨(some 20), (.op (.faddr 1 (.t 19))), none⟩, ⟨(some 21), (.op (.load (.t 20))), none⟩, ⟨(some 22), (.op (.mv (.t 5))), none⟩, ⟨(some 23), (.op (.lookup false (.agg #[(.int .i64 0), (.int .u64 0), (.int .u64 0)]) false (.t 21) (.t 22))), none⟩, ⟨(some 24), (.op (.bslice 108 [(.int .i64 0), (.int .u64 0), (.int .u64 0)] 1 [(0, 3, (.t 23))])), none⟩, ⟨(some 25), (.op (.append 108 3 24 (.t 17) (.t 24))), none⟩, ⟨(some 3), (.op (.mv (.t 25))), none⟩])))
   (.reg [⟨(some 26), (.op (.bin .add (.t 13) (.k (.int .i64 1)))), none⟩, ⟨(some 13), (.op (.mv (.t 26))), none⟩])))))))
  (.seq (.reg [⟨(some 27), (.op (.mv (.t 3))), none⟩, ⟨(some 2), (.op (.mv (.t 27))), none⟩])
  .ret)))))
def a46 : AF := ⟨28, [(.t 2)], .code b46, none⟩
theorem ok46 : AFOk Try.prog ext 46 a46 := .of Try.func46 (by kernel_rfl) (by kernel_rfl) (by kernel_rfl) (by kernel_rfl)
/-! 47: rowlock/value.Same -/
def b47 : AC :=
  (.seq (.reg [⟨(some 4), (.op (.mv (.k (.bool false)))), none⟩])
  (.seq (.reg [⟨(some 5), (.op (.mv (.t 0))), none⟩, ⟨(some 6), (.call (.f 64) [(.t 5)]), none⟩, ⟨(some 7), (.op (.mv (.t 1))), none⟩, ⟨(some 8), (.call (.f 64) [(.t 7)]), none⟩, ⟨(some 9), (.op (.bin .eql (.t 6) (.t 8))), none⟩, ⟨(some 4), (.op (.mv (.t 9))), none⟩])
  .ret))
def a47 : AF := ⟨10, [(.t 4)], .code b47, none⟩
theorem ok47 : AFOk Try.prog ext 47 a47 := .of Try.func47 (by kernel_rfl) (by kernel_rfl) (by kernel_rfl) (by kernel_rfl)
/-! 48: (*rowlock/seqlock.Lock).Since -/
def b48 : AC :=
  (.seq (.reg [⟨(some 4), (.op (.mv (.k (.bool false)))), none⟩])
  (.seq (.reg [⟨(some 5), (.op (.mv (.t 0))), none⟩, ⟨(some 6), (.op (.eq true .ptr (.t 5) (.k (.pointer none)))), none⟩, ⟨(some 7), (.op (.mv (.t 6))), none⟩, ⟨(some 8), (.op (.mv (.t 0))), (some (7, true))⟩, ⟨(some 9), (.op (.nilchk (.t 8))), (some (7, true))⟩, ⟨(some 10), (.op (.faddr 1 (.t 9))), (some (7, true))⟩, ⟨(some 11), (.op (.load (.t 10))), (some (7, true))⟩, ⟨(some 12), (.op (.mv (.t 1))), (some (7, true))⟩, ⟨(some 13), (.op (.bin .eql (.t 11) (.t 12))), (some (7, true))⟩, ⟨(some 14), (.op (.pick (.t 7) (.t 13) (.k (.bool false)))), none⟩, ⟨(some 4), (.op (.mv (.t 14))), none⟩])
  .ret))
def a48 : AF := ⟨15, [(.t 4)], .code b48, none⟩
theorem ok48 : AFOk Try.prog ext 48 a48 := .of Try.func48 (by kernel_rfl) (by kernel_rfl) (by kernel_rfl) (by kernel_rfl)
/-! 49: (*rowlock/seqlock.Lock).Break -/
def b49 : AC :=
  (.seq (.reg [⟨(some 4), (.op (.mv (.k (.int .i64 0)))), none⟩])
  (.seq (.reg [⟨(some 5), (.op (.mv (.t 0))), none⟩, ⟨(some 6), (.op (.mv (.t 1))), none⟩, ⟨(some 7), (.call (.f 65) [(.t 5), (.t 6), (.f 66)]), none⟩, ⟨(some 4), (.op (.mv (.t 7))), none⟩])
  .ret))
def a49 : AF := ⟨8, [(.t 4)], .code b49, none⟩
theorem ok49 : AFOk Try.prog ext 49 a49 := .of Try.func49 (by kernel_rfl) (by kernel_rfl) (by kernel_rfl) (by kernel_rfl)
/-! 50: (*rowlock/writes.Log).All -/
def b50 : AC :=
  (.seq (.reg [⟨(some 2), (.op (.mv (.k (.slice none 0 0)))), none⟩])
  (.seq (.reg [⟨(some 3), (.op (.mv (.k (.slice none 0 0)))), none⟩])
  (.seq (.seq (.reg [⟨(some 7), (.op (.mv (.k (.int .i64 0)))), none⟩])
  (.block 0 (.loop (.seq (.reg [⟨(some 8), (.op (.bin .lss (.t 7) (.k (.int .i64 12)))), none⟩])
   (.seq (.cond (.t 8) .skip
   (.exit 0))
   (.seq (.block 1 (.seq (.reg [⟨(some 9), (.op (.mv (.t 7))), none⟩, ⟨(some 4), (.op (.mv (.t 9))), none⟩])
   (.seq (.reg [⟨(some 11), (.op (.mv (.t 0))), none⟩, ⟨(some 12), (.op (.mv (.t 4))), none⟩, ⟨(some 13), (.call (.f 33) [(.t 11), (.t 12)]), none⟩, ⟨(some 10), (.op (.mv (.t 13))), none⟩, ⟨(some 14), (.op (.extract (.t 10) 0)), none⟩, ⟨(some 15), (.op (.extract (.t 10) 1)), none⟩, ⟨(some 5), (.op (.mv (.t 14))), none⟩, ⟨(some 6), (.op (.mv (.t 15))), none⟩])
   (.seq (.reg [⟨(some 16), (.op (.mv (.t 6))), none⟩])
   (.cond (.t 16) (.reg [⟨(some 17), (.op (.mv (.t 3))), none⟩, ⟨(some 18), (.op (.mv (.t 4))), none⟩, ⟨(some 19), (.op (.mv (.t 5))), none⟩, ⟨(some 20), (.op (.build [(.int .i64 0), (.int .u64 0)] [(0, 1, (.t 18)), (1, 1, (.t 19))])), none⟩, ⟨(some 21), (.op (.bslice 114 [(.int .i64 0), (.int .u64 0)] 1 [(0, 2, (.t 20))])), none⟩, ⟨(some 22), (.op (.append 114 2 16 (.t 17) (.t 21))), none⟩, ⟨(some 3), (.op (.mv (.t 22))), none⟩])
   .skip)))))
   (.reg [⟨(some 23), (.op (.bin .add (.t 7) (.k (.int .i64 1)))), none⟩, ⟨(some 7), (.op (.mv (.t 23))), none⟩])))))))
  (.seq (.reg [⟨(some 24), (.op (.mv (.t 3))), none⟩, ⟨(some 2), (.op (.mv (.t 24))), none⟩])
  .ret))))
def a50 : AF := ⟨25, [(.t 2)], .code b50, none⟩
theorem ok50 : AFOk Try.prog ext 50 a50 := .of Try.func50 (by kernel_rfl) (by kernel_rfl) (by kernel_rfl) (by kernel_rfl)
/-! 51: (*rowlock/norec.Engine).commit -/
def b51 : AC :=
  (.seq (.reg [⟨(some 4), (.op (.alloc 41 [(.bool false), (.int .u64 0), (.bool false), (.int .i64 0), (.bool false), (.int .u8 0), (.int .i64 0)])), none⟩])
  (.seq (.reg [⟨(some 5), (.op (.mv (.t 0))), none⟩, ⟨(some 6), (.op (.mv (.t 0))), none⟩, ⟨(some 7), (.op (.nilchk (.t 6))), none⟩, ⟨(some 8), (.op (.faddr 2 (.t 7))), none⟩, ⟨(some 9), (.op (.load (.t 8))), none⟩, ⟨(some 10), (.op (.mv (.t 1))), none⟩, ⟨(some 11), (.op (.lookup false (.pointer none) false (.t 9) (.t 10))), none⟩, ⟨(some 12), (.op (.nilchk (.t 11))), none⟩, ⟨(some 13), (.op (.faddr 2 (.t 12))), none⟩, ⟨(some 14), (.op (.load (.t 13))), none⟩, ⟨(some 15), (.op (.build [(.int .u8 0), (.int .i64 0), (.int .i64 0), (.int .u64 0)] [(0, 1, (.k (.int .u8 8))), (1, 1, (.t 14))])), none⟩, ⟨(some 16), (.call (.f 28) [(.t 5), (.t 15)]), none⟩])
  (.seq (.reg [⟨(some 17), (.op (.mv (.t 0))), none⟩, ⟨(some 18), (.op (.nilchk (.t 17))), none⟩, ⟨(some 19), (.op (.faddr 2 (.t 18))), none⟩, ⟨(some 20), (.op (.load (.t 19))), none⟩, ⟨(some 21), (.op (.mv (.t 1))), none⟩, ⟨none, (.op (.delete false (.t 20) (.t 21))), none⟩])
  (.seq (.reg [⟨(some 22), (.op (.build [(.bool false), (.int .u64 0), (.bool false), (.int .i64 0), (.bool false), (.int .u8 0), (.int .i64 0)] [(0, 1, (.k (.bool true))), (4, 1, (.k (.bool true)))])), none⟩, ⟨none, (.op (.store 7 (.t 4) (.t 22))), none⟩])
  .ret))))
def a51 : AF := ⟨23, [(.c 4 true 7)], .code b51, none⟩
theorem ok51 : AFOk Try.prog ext 51 a51 := .of Try.func51 (by kernel_rfl) (by kernel_rfl) (by kernel_rfl) (by kernel_rfl)
/-! 52: (*rowlock/seqlock.Lock).Try -/
def b52 : AC :=
  (.seq (.reg [⟨(some 3), (.op (.box 55 (.t 0))), none⟩, ⟨(some 4), (.op (.box 3 (.t 1))), none⟩, ⟨(some 5), (.op (.box 29 (.t 2))), none⟩, ⟨(some 6), (.op (.mv (.k (.int .i64 0)))), none⟩])
  (.seq (.reg [⟨(some 7), (.op (.mkfunc 67 [] [(.t 3), (.t 4), (.t 5)])), none⟩, ⟨(some 8), (.call (.f 41) [(.t 7)]), none⟩, ⟨(some 6), (.op (.mv (.t 8))), none⟩])
  .ret))
def a52 : AF := ⟨9, [(.t 6)], .code b52, none⟩
theorem ok52 : AFOk Try.prog ext 52 a52 := .of Try.func52 (by kernel_rfl) (by kernel_rfl) (by kernel_rfl) (by kernel_rfl)
/-! 53: (*rowlock/norec.attempt).look -/
def b53 : AC :=
  (.seq (.reg [⟨(some 4), (.op (.alloc 41 [(.bool false), (.int .u64 0), (.bool false), (.int .i64 0), (.bool false), (.int .u8 0), (.int .i64 0)])), none⟩])
  (.seq (.reg [⟨(some 5), (.op (.mv (.t 0))), none⟩, ⟨(some 6), (.op (.mv (.t 0))), none⟩, ⟨(some 7), (.op (.mv (.t 1))), none⟩, ⟨(some 8), (.op (.nilchk (.t 5))), none⟩, ⟨(some 9), (.op (.faddr 7 (.t 8))), none⟩, ⟨none, (.op (.store 1 (.t 9) (.k (.int .i64 4)))), none⟩, ⟨(some 10), (.op (.nilchk (.t 6))), none⟩, ⟨(some 11), (.op (.faddr 8 (.t 10))), none⟩, ⟨none, (.op (.store 1 (.t 11) (.t 7))), none⟩])
  (.seq (.reg [⟨(some 12), (.op (.build [(.bool false), (.int .u64 0), (.bool false), (.int .i64 0), (.bool false), (.int .u8 0), (.int .i64 0)] [])), none⟩, ⟨none, (.op (.store 7 (.t 4) (.t 12))), none⟩])
  .ret)))
def a53 : AF := ⟨13, [(.c 4 true 7)], .code b53, none⟩
theorem ok53 : AFOk Try.prog ext 53 a53 := .of Try.func53 (by kernel_rfl) (by kernel_rfl) (by kernel_rfl) (by kernel_rfl)
/-! 54: (*rowlock/seqlock.Lock).Unlock -/
def b54 : AC :=
  (.seq (.reg [⟨(some 4), (.op (.mv (.k (.int .i64 0)))), none⟩])
  (.seq (.reg [⟨(some 5), (.op (.mv (.t 0))), none⟩, ⟨(some 6), (.op (.mv (.t 1))), none⟩, ⟨(some 7), (.call (.f 65) [(.t 5), (.t 6), (.f 68)]), none⟩, ⟨(some 4), (.op (.mv (.t 7))), none⟩])
  .ret))
def a54 : AF := ⟨8, [(.t 4)], .code b54, none⟩
theorem ok54 : AFOk Try.prog ext 54 a54 := .of Try.func54 (by kernel_rfl) (by kernel_rfl) (by kernel_rfl) (by kernel_rfl)
/-! 55: (*rowlock/writes.stack[rowlock/writes.frame]).all -/
def b55 : AC :=
  (.seq (.reg [⟨(some 1), (.op (.box 97 (.t 0))), none⟩, ⟨(some 2), (.op (.mv (.k .nilFunc))), none⟩])
  (.seq (.reg [⟨(some 3), (.op (.mkfunc 69 [] [(.t 1)])), none⟩, ⟨(some 2), (.op (.mv (.t 3))), none⟩])
  .ret))
def a55 : AF := ⟨4, [(.t 2)], .code b55, none⟩
theorem ok55 : AFOk Try.prog ext 55 a55 := .of Try.func55 (by kernel_rfl) (by kernel_rfl) (by kernel_rfl) (by kernel_rfl)
/-! 56: (rowlock/writes.frame).get -/
def b56 : AC :=
  (.seq (.reg [⟨(some 4), (.op (.mv (.k (.int .u64 0)))), none⟩, ⟨(some 5), (.op (.mv (.k (.bool false)))), none⟩])
  (.seq (.seq (.reg [⟨(some 8), (.op (.mv (.t 0))), none⟩, ⟨(some 9), (.op (.lenS (.t 8))), none⟩, ⟨(some 10), (.op (.mv (.k (.int .i64 0)))), none⟩])
  (.block 0 (.loop (.seq (.reg [⟨(some 11), (.op (.bin .lss (.t 10) (.t 9))), none⟩])
   (.seq (.cond (.t 11) .skip
   (.exit 0))
   (.seq (.block 1 (.seq (.reg [⟨(some 12), (.op (.iaddrS 2 (.t 8) (.t 10))), none⟩, ⟨(some 13), (.op (.loadN 2 (.t 12))), none⟩, ⟨(some 7), (.op (.alloc 114 [(.int .i64 0), (.int .u64 0)])), none⟩, ⟨none, (.op (.store 2 (.t 7) (.t 13))), none⟩])
   (.seq (.reg [⟨(some 14), (.op (.faddr 0 (.t 7))), none⟩, ⟨(some 15), (.op (.load (.t 14))), none⟩, ⟨(some 16), (.op (.mv (.t 1))), none⟩, ⟨(some 17), (.op (.bin .eql (.t 15) (.t 16))), none⟩])
   (.cond (.t 17) (.seq (.reg [⟨(some 18), (.op (.faddr 1 (.t 7))), none⟩, ⟨(some 19), (.op (.load (.t 18))), none⟩, ⟨(some 4), (.op (.mv (.t 19))), none⟩, ⟨(some 5), (.op (.mv (.k (.bool true)))), none⟩])
   .ret)
   .skip))))
   (.reg [⟨(some 20), (.op (.bin .add (.t 10) (.k (.int .i64 1)))), none⟩, ⟨(some 10), (.op (.mv (.t 20))), none⟩])))))))
  (.seq (.reg [⟨(some 4), (.op (.mv (.k (.int .u64 0)))), none⟩, ⟨(some 5), (.op (.mv (.k (.bool false)))), none⟩])
  .ret)))
def a56 : AF := ⟨21, [(.t 4), (.t 5)], .code b56, none⟩
theorem ok56 : AFOk Try.prog ext 56 a56 := .of Try.func56 (by kernel_rfl) (by kernel_rfl) (by kernel_rfl) (by kernel_rfl)
/-! 57: (*rowlock/norec.attempt).done -/
def b57 : AC :=
  (.seq (.reg [⟨(some 4), (.op (.alloc 41 [(.bool false), (.int .u64 0), (.bool false), (.int .i64 0), (.bool false), (.int .u8 0), (.int .i64 0)])), none⟩])
  (.seq (.reg [⟨(some 5), (.op (.mv (.t 0))), none⟩, ⟨(some 6), (.op (.build [(.int .u8 0), (.int .i64 0), (.int .u64 0)] [])), none⟩, ⟨(some 7), (.op (.nilchk (.t 5))), none⟩, ⟨(some 8), (.op (.faddr 4 (.t 7))), none⟩, ⟨none, (.op (.store 3 (.t 8) (.t 6))), none⟩])
  (.seq (.reg [⟨(some 9), (.op (.mv (.t 1))), none⟩, ⟨(some 10), (.op (.build [(.bool false), (.int .u64 0), (.bool false), (.int .i64 0), (.bool false), (.int .u8 0), (.int .i64 0)] [(0, 1, (.k (.bool true))), (1, 1, (.t 9))])), none⟩, ⟨none, (.op (.store 7 (.t 4) (.t 10))), none⟩])
  .ret)))
def a57 : AF := ⟨11, [(.c 4 true 7)], .code b57, none⟩
theorem ok57 : AFOk Try.prog ext 57 a57 := .of Try.func57 (by kernel_rfl) (by kernel_rfl) (by kernel_rfl) (by kernel_rfl)
/-! 58: (*rowlock/reads.Set).Add -/
def b58 : AC :=
  (.seq (.reg [⟨(some 3), (.op (.box 108 (.t 1))), none⟩, ⟨(some 4), (.op (.mv (.k (.int .i64 0)))), none⟩])
  (.seq (.block 0 (.seq (.reg [⟨(some 8), (.op (.mv (.t 0))), none⟩, ⟨(some 9), (.op (.eq false .ptr (.t 8) (.k (.pointer none)))), none⟩, ⟨(some 7), (.op (.mv (.t 9))), none⟩])
  (.cond (.t 7) (.seq (.reg [⟨(some 4), (.op (.mv (.k (.int .i64 1)))), none⟩])
  .ret)
  (.seq (.reg [⟨(some 11), (.op (.faddr 0 (.t 3))), none⟩, ⟨(some 12), (.op (.load (.t 11))), none⟩, ⟨(some 13), (.op (.bin .lss (.t 12) (.k (.int .i64 0)))), none⟩, ⟨(some 14), (.op (.mv (.t 13))), none⟩, ⟨(some 15), (.op (.faddr 0 (.t 3))), (some (14, false))⟩, ⟨(some 16), (.op (.load (.t 15))), (some (14, false))⟩, ⟨(some 17), (.op (.bin .geq (.t 16) (.k (.int .i64 12)))), (some (14, false))⟩, ⟨(some 18), (.op (.pick (.t 14) (.k (.bool true)) (.t 17))), none⟩, ⟨(some 19), (.op (.mv (.t 18))), none⟩, ⟨(some 20), (.op (.faddr 2 (.t 3))), (some (19, false))⟩, ⟨(some 21), (.op (.load (.t 20))), (some (19, false))⟩, ⟨(some 22), (.op (.bin .gtr (.t 21) (.k (.int .u64 1099511627776)))), (some (19, false))⟩, ⟨(some 23), (.op (.pick (.t 19) (.k (.bool true)) (.t 22))), none⟩, ⟨(some 10), (.op (.mv (.t 23))), none⟩])
  (.cond (.t 10) (.seq (.reg [⟨(some 4), (.op (.mv (.k (.int .i64 2)))), none⟩])
  .ret)
  (.seq (.reg [⟨(some 25), (.op (.faddr 1 (.t 3))), none⟩, ⟨(some 26), (.op (.load (.t 25))), none⟩, ⟨(some 27), (.call (.f 20) [(.t 26)]), none⟩, ⟨(some 28), (.op (.un .not (.t 27))), none⟩, ⟨(some 24), (.op (.mv (.t 28))), none⟩])
  (.cond (.t 24) (.seq (.reg [⟨(some 4), (.op (.mv (.k (.int .i64 3)))), none⟩])
  .ret)
  .skip)))))))
  (.seq (.seq (.dreg (.quiet ⟨(some 30), (.op (.mv (.t 0))), none⟩ (.quiet ⟨(some 31), (.op (.nilchk (.t 30))), none⟩ (.quiet ⟨(some 32), (.op (.faddr 1 (.t 31))), none⟩ (.quiet ⟨(some 33), (.op (.load (.t 32))), none⟩ (.quiet ⟨(some 34), (.op (.faddr 0 (.t 3))), none⟩ (.quiet ⟨(some 35), (.op (.load (.t 34))), none⟩ (.quiet ⟨(some 36), (.op (.lookup false (.agg #[(.int .i64 0), (.int .u64 0), (.int .u64 0)]) true (.t 33) (.t 35))), none⟩ (.quiet ⟨(some 29), (.op (.mv (.t 36))), none⟩ (.quiet ⟨(some 37), (.op (.extract (.t 29) 0)), none⟩ (.quiet ⟨(some 38), (.op (.extract (.t 29) 1)), none⟩ (.loud ⟨(some 5), (.op (.alloc 108 [(.int .i64 0), (.int .u64 0), (.int .u64 0)])), none⟩ [⟨(some 36), (.op (.lookup false (.agg #[(.int .i64 0), (.int .u64 0), (.int .u64 0)]) true (.t 33) (.t 35))), none⟩, ⟨(some 35), (.op (.load (.t 34))), none⟩, ⟨(some 33), (.op (.load (.t 32))), none⟩] (.loud ⟨none, (.op (.store 3 (.t 5) (.t 37))), none⟩ [] (.loud ⟨(some 6), (.op (.mv (.t 38))), none⟩ [] .nil))))))))))))))
  (.seq (.reg [⟨(some 39), (.op (.mv (.t 6))), none⟩])
  (.cond (.t 39) (.seq (.reg [⟨(some 4), (.op (.mv (.k (.int .i64 0)))), none⟩])
  .ret)
  .skip)))
  (.seq (.seq (.reg [⟨(some 40), (.op (.mv (.t 0))), none⟩, ⟨(some 41), (.op (.nilchk (.t 40))), none⟩, ⟨(some 42), (.op (.faddr 0 (.t 41))), none⟩, ⟨(some 43), (.op (.load (.t 42))), none⟩, ⟨(some 44), (.op (.lenS (.t 43))), none⟩, ⟨(some 45), (.op (.bin .geq (.t 44) (.k (.int .i64 8)))), none⟩])
  (.cond (.t 45) (.seq (.reg [⟨(some 4), (.op (.mv (.k (.int .i64 4)))), none⟩])
  .ret)
  .skip))
  (.seq (.dreg (.quiet ⟨(some 46), (.op (.mv (.t 0))), none⟩ (.quiet ⟨(some 47), (.op (.mv (.t 0))), none⟩ (.quiet ⟨(some 48), (.op (.nilchk (.t 47))), none⟩ (.quiet ⟨(some 49), (.op (.faddr 0 (.t 48))), none⟩ (.quiet ⟨(some 50), (.op (.load (.t 49))), none⟩ (.quiet ⟨(some 51), (.op (.faddr 0 (.t 3))), none⟩ (.quiet ⟨(some 52), (.op (.load (.t 51))), none⟩ (.loud ⟨(some 53), (.op (.bslice 3 [(.int .i64 0)] 1 [(0, 1, (.t 52))])), none⟩ [⟨(some 50), (.op (.load (.t 49))), none⟩] (.loud ⟨(some 54), (.op (.append 3 1 8 (.t 50) (.t 53))), none⟩ [] (.quiet ⟨(some 55), (.op (.nilchk (.t 46))), none⟩ (.quiet ⟨(some 56), (.op (.faddr 0 (.t 55))), none⟩ (.loud ⟨none, (.op (.store 1 (.t 56) (.t 54))), none⟩ [] .nil)))))))))))))
  (.seq (.dreg (.quiet ⟨(some 57), (.op (.mv (.t 0))), none⟩ (.quiet ⟨(some 58), (.op (.nilchk (.t 57))), none⟩ (.quiet ⟨(some 59), (.op (.faddr 1 (.t 58))), none⟩ (.quiet ⟨(some 60), (.op (.load (.t 59))), none⟩ (.quiet ⟨(some 61), (.op (.faddr 0 (.t 3))), none⟩ (.quiet ⟨(some 62), (.op (.load (.t 61))), none⟩ (.quiet ⟨(some 63), (.op (.loadN 3 (.t 3))), none⟩ (.loud ⟨none, (.op (.mapupd false (.t 60) (.t 62) (.t 63))), none⟩ [] .nil)))))))))
  (.seq (.reg [⟨(some 4), (.op (.mv (.k (.int .i64 0)))), none⟩])
  .ret)))))))
def a58 : AF := ⟨64, [(.t 4)], .code b58, none⟩
theorem ok58 : AFOk Try.prog ext 58 a58 := .of Try.func58 (by kernel_rfl) (by kernel_rfl) (by kernel_rfl) (by kernel_rfl)
/-! 59: (*rowlock/writes.Log).Push -/
def b59 : AC :=
  (.seq (.reg [⟨(some 2), (.op (.mv (.k (.int .i64 0)))), none⟩])
  (.seq (.block 0 (.seq (.reg [⟨(some 4), (.op (.mv (.t 0))), none⟩, ⟨(some 5), (.op (.eq false .ptr (.t 4) (.k (.pointer none)))), none⟩, ⟨(some 3), (.op (.mv (.t 5))), none⟩])
  (.cond (.t 3) (.seq (.reg [⟨(some 2), (.op (.mv (.k (.int .i64 1)))), none⟩])
  .ret)
  (.seq (.reg [⟨(some 7), (.op (.mv (.t 0))), none⟩, ⟨(some 8), (.op (.nilchk (.t 7))), none⟩, ⟨(some 9), (.op (.faddr 1 (.t 8))), none⟩, ⟨(some 10), (.op (.load (.t 9))), none⟩, ⟨(some 11), (.op (.bin .geq (.t 10) (.k (.int .i64 4)))), none⟩, ⟨(some 6), (.op (.mv (.t 11))), none⟩])
  (.cond (.t 6) (.seq (.reg [⟨(some 2), (.op (.mv (.k (.int .i64 4)))), none⟩])
  .ret)
  .skip)))))
  (.seq (.reg [⟨(some 12), (.op (.mv (.t 0))), none⟩, ⟨(some 13), (.op (.mv (.t 0))), none⟩, ⟨(some 14), (.op (.nilchk (.t 13))), none⟩, ⟨(some 15), (.op (.faddr 0 (.t 14))), none⟩, ⟨(some 16), (.op (.load (.t 15))), none⟩, ⟨(some 17), (.call (.f 44) [(.t 16), (.k (.slice none 0 0))]), none⟩, ⟨(some 18), (.op (.nilchk (.t 12))), none⟩, ⟨(some 19), (.op (.faddr 0 (.t 18))), none⟩, ⟨none, (.op (.store 1 (.t 19) (.t 17))), none⟩])
  (.seq (.reg [⟨(some 20), (.op (.mv (.t 0))), none⟩, ⟨(some 21), (.op (.nilchk (.t 20))), none⟩, ⟨(some 22), (.op (.faddr 1 (.t 21))), none⟩, ⟨(some 23), (.op (.load (.t 22))), none⟩, ⟨(some 24), (.op (.bin .add (.t 23) (.k (.int .i64 1)))), none⟩, ⟨(some 25), (.op (.nilchk (.t 20))), none⟩, ⟨(some 26), (.op (.faddr 1 (.t 25))), none⟩, ⟨none, (.op (.store 1 (.t 26) (.t 24))), none⟩])
  (.seq (.reg [⟨(some 2), (.op (.mv (.k (.int .i64 0)))), none⟩])
  .ret)))))
def a59 : AF := ⟨27, [(.t 2)], .code b59, none⟩
theorem ok59 : AFOk Try.prog ext 59 a59 := .of Try.func59 (by kernel_rfl) (by kernel_rfl) (by kernel_rfl) (by kernel_rfl)
/-! 60: (*rowlock/writes.Log).Drop -/
def b60 : AC :=
  (.seq (.reg [⟨(some 2), (.op (.mv (.k (.int .i64 0)))), none⟩])
  (.seq (.reg [⟨(some 6), (.op (.mv (.t 0))), none⟩, ⟨(some 7), (.call (.f 70) [(.t 6)]), none⟩, ⟨(some 5), (.op (.mv (.t 7))), none⟩, ⟨(some 8), (.op (.extract (.t 5) 0)), none⟩, ⟨(some 9), (.op (.extract (.t 5) 1)), none⟩, ⟨(some 3), (.op (.mv (.t 8))), none⟩, ⟨(some 4), (.op (.mv (.t 9))), none⟩])
  (.seq (.reg [⟨(some 10), (.op (.mv (.t 4))), none⟩, ⟨(some 2), (.op (.mv (.t 10))), none⟩])
  .ret)))
def a60 : AF := ⟨11, [(.t 2)], .code b60, none⟩
theorem ok60 : AFOk Try.prog ext 60 a60 := .of Try.func60 (by kernel_rfl) (by kernel_rfl) (by kernel_rfl) (by kernel_rfl)
/-! 61: (*rowlock/writes.Log).Merge -/
def b61 : AC :=
  (.seq (.reg [⟨(some 2), (.op (.mv (.k (.int .i64 0)))), none⟩])
  (.seq (.reg [⟨(some 9), (.op (.mv (.t 0))), none⟩, ⟨(some 10), (.call (.f 70) [(.t 9)]), none⟩, ⟨(some 8), (.op (.mv (.t 10))), none⟩, ⟨(some 11), (.op (.extract (.t 8) 0)), none⟩, ⟨(some 12), (.op (.extract (.t 8) 1)), none⟩, ⟨(some 3), (.op (.mv (.t 11))), none⟩, ⟨(some 4), (.op (.mv (.t 12))), none⟩])
  (.seq (.seq (.reg [⟨(some 13), (.op (.mv (.t 4))), none⟩, ⟨(some 14), (.op (.bin .neq (.t 13) (.k (.int .i64 0)))), none⟩])
  (.cond (.t 14) (.seq (.reg [⟨(some 15), (.op (.mv (.t 4))), none⟩, ⟨(some 2), (.op (.mv (.t 15))), none⟩])
  .ret)
  .skip))
  (.seq (.reg [⟨(some 16), (.op (.mv (.t 0))), none⟩, ⟨(some 17), (.op (.nilchk (.t 16))), none⟩, ⟨(some 18), (.op (.faddr 0 (.t 17))), none⟩, ⟨(some 19), (.op (.load (.t 18))), none⟩, ⟨(some 20), (.op (.nilchk (.t 19))), none⟩, ⟨(some 21), (.op (.faddr 0 (.t 20))), none⟩, ⟨(some 22), (.op (.load (.t 21))), none⟩, ⟨(some 5), (.op (.mv (.t 22))), none⟩])
  (.seq (.seq (.reg [⟨(some 23), (.op (.mv (.t 3))), none⟩, ⟨(some 24), (.op (.lenS (.t 23))), none⟩, ⟨(some 25), (.op (.mv (.k (.int .i64 0)))), none⟩])
  (.block 0 (.loop (.seq (.reg [⟨(some 26), (.op (.bin .lss (.t 25) (.t 24))), none⟩])
   (.seq (.cond (.t 26) .skip
   (.exit 0))
   (.seq (.block 1 (.seq (.reg [⟨(some 27), (.op (.iaddrS 2 (.t 23) (.t 25))), none⟩, ⟨(some 28), (.op (.loadN 2 (.t 27))), none⟩, ⟨(some 7), (.op (.alloc 114 [(.int .i64 0), (.int .u64 0)])), none⟩, ⟨none, (.op (.store 2 (.t 7) (.t 28))), none⟩])
   (.reg [⟨(some 29), (.op (.mv (.t 5))), none⟩, ⟨(some 30), (.op (.loadN 2 (.t 7))), none⟩, ⟨(some 31), (.call (.f 71) [(.t 29), (.t 30)]), none⟩, ⟨(some 5), (.op (.mv (.t 31))), none⟩])))
   (.reg [⟨(some 32), (.op (.bin .add (.t 25) (.k (.int .i64 1)))), none⟩, ⟨(some 25), (.op (.mv (.t 32))), none⟩])))))))
  (.seq (.reg [⟨(some 33), (.op (.mv (.t 0))), none⟩, ⟨(some 34), (.op (.mv (.t 0))), none⟩, ⟨(some 35), (.op (.nilchk (.t 34))), none⟩, ⟨(some 36), (.op (.faddr 0 (.t 35))), none⟩, ⟨(some 37), (.op (.load (.t 36))), none⟩, ⟨(some 38), (.op (.nilchk (.t 37))), none⟩, ⟨(some 39), (.op (.faddr 1 (.t 38))), none⟩, ⟨(some 40), (.op (.load (.t 39))), none⟩, ⟨(some 41), (.op (.mv (.t 5))), none⟩, ⟨(some 42), (.call (.f 44) [(.t 40), (.t 41)]), none⟩, ⟨(some 43), (.op (.nilchk (.t 33))), none⟩, ⟨(some 44), (.op (.faddr 0 (.t 43))), none⟩, ⟨none, (.op (.store 1 (.t 44) (.t 42))), none⟩])
  (.seq (.reg [⟨(some 2), (.op (.mv (.k (.int .i64 0)))), none⟩])
  .ret)))))))
def a61 : AF := ⟨45, [(.t 2)], .code b61, none⟩
theorem ok61 : AFOk Try.prog ext 61 a61 := .of Try.func61 (by kernel_rfl) (by kernel_rfl) (by kernel_rfl) (by kernel_rfl)
/-! 62: (*rowlock/writes.Log).Put -/
def b62 : AC :=
  (.seq (.reg [⟨(some 6), (.op (.mv (.k (.int .i64 0)))), none⟩])
  (.seq (.block 0 (.seq (.reg [⟨(some 10), (.op (.mv (.t 0))), none⟩, ⟨(some 11), (.op (.eq false .ptr (.t 10) (.k (.pointer none)))), none⟩, ⟨(some 9), (.op (.mv (.t 11))), none⟩])
  (.cond (.t 9) (.seq (.reg [⟨(some 6), (.op (.mv (.k (.int .i64 1)))), none⟩])
  .ret)
  (.seq (.reg [⟨(some 13), (.op (.mv (.t 1))), none⟩, ⟨(some 14), (.op (.bin .lss (.t 13) (.k (.int .i64 0)))), none⟩, ⟨(some 15), (.op (.mv (.t 14))), none⟩, ⟨(some 16), (.op (.mv (.t 1))), (some (15, false))⟩, ⟨(some 17), (.op (.bin .geq (.t 16) (.k (.int .i64 12)))), (some (15, false))⟩, ⟨(some 18), (.op (.pick (.t 15) (.k (.bool true)) (.t 17))), none⟩, ⟨(some 12), (.op (.mv (.t 18))), none⟩])
  (.cond (.t 12) (.seq (.reg [⟨(some 6), (.op (.mv (.k (.int .i64 2)))), none⟩])
  .ret)
  (.seq (.reg [⟨(some 20), (.op (.mv (.t 2))), none⟩, ⟨(some 21), (.call (.f 20) [(.t 20)]), none⟩, ⟨(some 22), (.op (.un .not (.t 21))), none⟩, ⟨(some 19), (.op (.mv (.t 22))), none⟩])
  (.cond (.t 19) (.seq (.reg [⟨(some 6), (.op (.mv (.k (.int .i64 3)))), none⟩])
  .ret)
  .skip)))))))
  (.seq (.seq (.reg [⟨(some 24), (.op (.mv (.t 0))), none⟩, ⟨(some 25), (.op (.nilchk (.t 24))), none⟩, ⟨(some 26), (.op (.faddr 0 (.t 25))), none⟩, ⟨(some 27), (.op (.load (.t 26))), none⟩, ⟨(some 28), (.op (.nilchk (.t 27))), none⟩, ⟨(some 29), (.op (.faddr 0 (.t 28))), none⟩, ⟨(some 30), (.op (.load (.t 29))), none⟩, ⟨(some 31), (.op (.mv (.t 1))), none⟩, ⟨(some 32), (.call (.f 56) [(.t 30), (.t 31)]), none⟩, ⟨(some 23), (.op (.mv (.t 32))), none⟩, ⟨(some 33), (.op (.extract (.t 23) 0)), none⟩, ⟨(some 34), (.op (.extract (.t 23) 1)), none⟩, ⟨(some 7), (.op (.mv (.t 33))), none⟩, ⟨(some 8), (.op (.mv (.t 34))), none⟩])
  (.seq (.reg [⟨(some 35), (.op (.mv (.t 8))), none⟩, ⟨(some 36), (.op (.un .not (.t 35))), none⟩, ⟨(some 37), (.op (.mv (.t 36))), none⟩, ⟨(some 38), (.op (.mv (.t 0))), (some (37, true))⟩, ⟨(some 39), (.call (.f 72) [(.t 38)]), (some (37, true))⟩, ⟨(some 40), (.op (.bin .geq (.t 39) (.k (.int .i64 16)))), (some (37, true))⟩, ⟨(some 41), (.op (.pick (.t 37) (.t 40) (.k (.bool false)))), none⟩])
  (.cond (.t 41) (.seq (.reg [⟨(some 6), (.op (.mv (.k (.int .i64 4)))), none⟩])
  .ret)
  .skip)))
  (.seq (.dreg (.quiet ⟨(some 42), (.op (.mv (.t 0))), none⟩ (.quiet ⟨(some 43), (.op (.mv (.t 0))), none⟩ (.quiet ⟨(some 44), (.op (.nilchk (.t 43))), none⟩ (.quiet ⟨(some 45), (.op (.faddr 0 (.t 44))), none⟩ (.quiet ⟨(some 46), (.op (.load (.t 45))), none⟩ (.quiet ⟨(some 47), (.op (.nilchk (.t 46))), none⟩ (.quiet ⟨(some 48), (.op (.faddr 1 (.t 47))), none⟩ (.quiet ⟨(some 49), (.op (.load (.t 48))), none⟩ (.quiet ⟨(some 50), (.op (.mv (.t 0))), none⟩ (.quiet ⟨(some 51), (.op (.nilchk (.t 50))), none⟩ (.quiet ⟨(some 52), (.op (.faddr 0 (.t 51))), none⟩ (.quiet ⟨(some 53), (.op (.load (.t 52))), none⟩ (.quiet ⟨(some 54), (.op (.nilchk (.t 53))), none⟩ (.quiet ⟨(some 55), (.op (.faddr 0 (.t 54))), none⟩ (.quiet ⟨(some 56), (.op (.load (.t 55))), none⟩ (.quiet ⟨(some 57), (.op (.mv (.t 1))), none⟩ (.quiet ⟨(some 58), (.op (.mv (.t 2))), none⟩ (.quiet ⟨(some 59), (.op (.build [(.int .i64 0), (.int .u64 0)] [(0, 1, (.t 57)), (1, 1, (.t 58))])), none⟩ (.loud ⟨(some 60), (.call (.f 71) [(.t 56), (.t 59)]), none⟩ [⟨(some 49), (.op (.load (.t 48))), none⟩, ⟨(some 46), (.op (.load (.t 45))), none⟩] (.loud ⟨(some 61), (.call (.f 44) [(.t 49), (.t 60)]), none⟩ [] (.quiet ⟨(some 62), (.op (.nilchk (.t 42))), none⟩ (.quiet ⟨(some 63), (.op (.faddr 0 (.t 62))), none⟩ (.loud ⟨none, (.op (.store 1 (.t 63) (.t 61))), none⟩ [] .nil))))))))))))))))))))))))
  (.seq (.reg [⟨(some 6), (.op (.mv (.k (.int .i64 0)))), none⟩])
  .ret)))))
def a62 : AF := ⟨64, [(.t 6)], .code b62, none⟩
theorem ok62 : AFOk Try.prog ext 62 a62 := .of Try.func62 (by kernel_rfl) (by kernel_rfl) (by kernel_rfl) (by kernel_rfl)
/-! 63: rowlock/seqlock.attempt$1 -/
def b63 : AC :=
  (.seq (.reg [])
  (.block 0 (.seq (.reg [⟨(some 6), (.op (.ifnil false (.t 4))), none⟩])
  (.cond (.t 6) (.reg [⟨(some 1), (.op (.mv (.t 4))), none⟩])
  (.seq (.reg [⟨(some 7), (.op (.tassert 123 (.agg #[(.int .i64 0)]) (.t 4))), none⟩, ⟨(some 8), (.op (.extract (.t 7) 1)), none⟩, ⟨(some 9), (.op (.extract (.t 7) 0)), none⟩])
  (.cond (.t 8) (.seq (.reg [⟨(some 2), (.op (.alloc 123 [(.int .i64 0)])), none⟩, ⟨none, (.op (.store 1 (.t 2) (.t 9))), none⟩])
  (.reg [⟨(some 10), (.op (.faddr 0 (.t 2))), none⟩, ⟨(some 11), (.op (.load (.t 10))), none⟩, ⟨none, (.op (.store 1 (.t 0) (.t 11))), none⟩]))
  (.seq (.reg [⟨(some 3), (.op (.mv (.t 4))), none⟩])
  (.reg [⟨(some 5), (.op (.mv (.t 3))), none⟩, ⟨none, (.panic (.t 5)), none⟩]))))))))
def a63 : AF := ⟨12, [], .code b63, some 4⟩
theorem ok63 : AFOk Try.prog ext 63 a63 := .of Try.func63 (by kernel_rfl) (by kernel_rfl) (by kernel_rfl) (by kernel_rfl)
/-! 64: rowlock/value.Canon -/
def b64 : AC :=
  (.seq (.reg [⟨(some 2), (.op (.mv (.k (.int .u64 0)))), none⟩])
  (.seq (.seq (.reg [⟨(some 3), (.op (.mv (.t 0))), none⟩, ⟨(some 4), (.call (.f 20) [(.t 3)]), none⟩])
  (.cond (.t 4) (.seq (.reg [⟨(some 5), (.op (.mv (.t 0))), none⟩, ⟨(some 2), (.op (.mv (.t 5))), none⟩])
  .ret)
  .skip))
  (.seq (.reg [⟨(some 2), (.op (.mv (.k (.int .u64 9221120237041090560)))), none⟩])
  .ret)))
def a64 : AF := ⟨6, [(.t 2)], .code b64, none⟩
theorem ok64 : AFOk Try.prog ext 64 a64 := .of Try.func64 (by kernel_rfl) (by kernel_rfl) (by kernel_rfl) (by kernel_rfl)
/-! 65: (*rowlock/seqlock.Lock).free -/
def b65 : AC :=
  (.seq (.reg [⟨(some 3), (.op (.box 55 (.t 0))), none⟩, ⟨(some 4), (.op (.box 3 (.t 1))), none⟩, ⟨(some 5), (.op (.box 128 (.t 2))), none⟩, ⟨(some 6), (.op (.mv (.k (.int .i64 0)))), none⟩])
  (.seq (.reg [⟨(some 7), (.op (.mkfunc 73 [] [(.t 3), (.t 4), (.t 5)])), none⟩, ⟨(some 8), (.call (.f 41) [(.t 7)]), none⟩, ⟨(some 6), (.op (.mv (.t 8))), none⟩])
  .ret))
def a65 : AF := ⟨9, [(.t 6)], .code b65, none⟩
theorem ok65 : AFOk Try.prog ext 65 a65 := .of Try.func65 (by kernel_rfl) (by kernel_rfl) (by kernel_rfl) (by kernel_rfl)
/-! 66: (*rowlock/seqlock.Lock).Break$1 -/
def b66 : AC :=
  (.seq (.reg [⟨(some 2), (.op (.mv (.k (.int .u64 0)))), none⟩])
  (.seq (.reg [⟨(some 3), (.op (.mv (.t 0))), none⟩, ⟨(some 4), (.op (.bin .sub (.t 3) (.k (.int .u64 1)))), none⟩, ⟨(some 2), (.op (.mv (.t 4))), none⟩])
  .ret))
def a66 : AF := ⟨5, [(.t 2)], .code b66, none⟩
theorem ok66 : AFOk Try.prog ext 66 a66 := .of Try.func66 (by kernel_rfl) (by kernel_rfl) (by kernel_rfl) (by kernel_rfl)
/-! 67: (*rowlock/seqlock.Lock).Try$1 -/
def b67 : AC :=
  (.seq (.reg [⟨(some 3), (.op (.load (.t 0))), none⟩, ⟨(some 4), (.op (.eq true .ptr (.t 3) (.k (.pointer none)))), none⟩, ⟨(some 5), (.call (.f 43) [(.t 4), (.k (.int .i64 1))]), none⟩])
  (.seq (.reg [⟨(some 6), (.op (.load (.t 1))), none⟩, ⟨(some 7), (.op (.bin .geq (.t 6) (.k (.int .i64 0)))), none⟩, ⟨(some 8), (.op (.mv (.t 7))), none⟩, ⟨(some 9), (.op (.load (.t 1))), (some (8, true))⟩, ⟨(some 10), (.op (.bin .lss (.t 9) (.k (.int .i64 4)))), (some (8, true))⟩, ⟨(some 11), (.op (.pick (.t 8) (.t 10) (.k (.bool false)))), none⟩, ⟨(some 12), (.call (.f 43) [(.t 11), (.k (.int .i64 2))]), none⟩])
  (.seq (.reg [⟨(some 13), (.op (.load (.t 0))), none⟩, ⟨(some 14), (.op (.nilchk (.t 13))), none⟩, ⟨(some 15), (.op (.faddr 0 (.t 14))), none⟩, ⟨(some 16), (.op (.load (.t 15))), none⟩, ⟨(some 17), (.op (.eq false .ptr (.t 16) (.k (.pointer none)))), none⟩, ⟨(some 18), (.call (.f 43) [(.t 17), (.k (.int .i64 7))]), none⟩])
  (.seq (.dreg (.quiet ⟨(some 19), (.op (.load (.t 0))), none⟩ (.quiet ⟨(some 20), (.op (.nilchk (.t 19))), none⟩ (.quiet ⟨(some 21), (.op (.faddr 1 (.t 20))), none⟩ (.quiet ⟨(some 22), (.op (.load (.t 21))), none⟩ (.quiet ⟨(some 23), (.op (.load (.t 2))), none⟩ (.quiet ⟨(some 24), (.op (.bin .eql (.t 22) (.t 23))), none⟩ (.loud ⟨(some 25), (.call (.f 43) [(.t 24), (.k (.int .i64 8))]), none⟩ [] .nil))))))))
  (.seq (.reg [⟨(some 26), (.op (.load (.t 0))), none⟩, ⟨(some 27), (.op (.nilchk (.t 26))), none⟩, ⟨(some 28), (.op (.faddr 1 (.t 27))), none⟩, ⟨(some 29), (.op (.load (.t 28))), none⟩, ⟨(some 30), (.op (.bin .lss (.t 29) (.k (.int .u64 1099511627775)))), none⟩, ⟨(some 31), (.call (.f 43) [(.t 30), (.k (.int .i64 4))]), none⟩])
  (.seq (.reg [⟨(some 32), (.op (.load (.t 0))), none⟩, ⟨(some 33), (.op (.nilchk (.t 32))), none⟩, ⟨(some 34), (.op (.faddr 0 (.t 33))), none⟩, ⟨none, (.op (.store 1 (.t 34) (.t 1))), none⟩])
  (.reg [⟨(some 35), (.op (.load (.t 0))), none⟩, ⟨(some 36), (.op (.nilchk (.t 35))), none⟩, ⟨(some 37), (.op (.faddr 1 (.t 36))), none⟩, ⟨(some 38), (.op (.load (.t 37))), none⟩, ⟨(some 39), (.op (.bin .add (.t 38) (.k (.int .u64 1)))), none⟩, ⟨(some 40), (.op (.nilchk (.t 35))), none⟩, ⟨(some 41), (.op (.faddr 1 (.t 40))), none⟩, ⟨none, (.op (.store 1 (.t 41) (.t 39))), none⟩])))))))
def a67 : AF := ⟨42, [], .code b67, none⟩
theorem ok67 : AFOk Try.prog ext 67 a67 := .of Try.func67 (by kernel_rfl) (by kernel_rfl) (by kernel_rfl) (by kernel_rfl)
/-! 68: (*rowlock/seqlock.Lock).Unlock$1 -/
def b68 : AC :=
  (.seq (.reg [⟨(some 2), (.op (.mv (.k (.int .u64 0)))), none⟩])
  (.seq (.reg [⟨(some 3), (.op (.mv (.t 0))), none⟩, ⟨(some 4), (.op (.bin .add (.t 3) (.k (.int .u64 1)))), none⟩, ⟨(some 2), (.op (.mv (.t 4))), none⟩])
  .ret))
def a68 : AF := ⟨5, [(.t 2)], .code b68, none⟩
theorem ok68 : AFOk Try.prog ext 68 a68 := .of Try.func68 (by kernel_rfl) (by kernel_rfl) (by kernel_rfl) (by kernel_rfl)
/-! 69: (*rowlock/writes.stack[rowlock/writes.frame]).all$1 -/
def b69 : AC :=
  (.block 0 (.loop (.seq (.seq (.reg [⟨(some 3), (.op (.load (.t 1))), none⟩, ⟨(some 4), (.op (.eq true .ptr (.t 3) (.k (.pointer none)))), none⟩])
   (.cond (.t 4) .skip
   (.exit 0)))
   (.seq (.block 1 (.seq (.reg [⟨(some 9), (.op (.mv (.t 0))), none⟩, ⟨(some 10), (.op (.load (.t 1))), none⟩, ⟨(some 11), (.op (.nilchk (.t 10))), none⟩, ⟨(some 12), (.op (.faddr 0 (.t 11))), none⟩, ⟨(some 13), (.op (.load (.t 12))), none⟩, ⟨(some 14), (.call (.t 9) [(.t 13)]), none⟩, ⟨(some 15), (.op (.un .not (.t 14))), none⟩])
   (.cond (.t 15) .ret
   .skip)))
   (.reg [⟨(some 5), (.op (.load (.t 1))), none⟩, ⟨(some 6), (.op (.nilchk (.t 5))), none⟩, ⟨(some 7), (.op (.faddr 1 (.t 6))), none⟩, ⟨(some 8), (.op (.load (.t 7))), none⟩, ⟨none, (.op (.store 1 (.t 1) (.t 8))), none⟩])))))
def a69 : AF := ⟨16, [], .code b69, none⟩
theorem ok69 : AFOk Try.prog ext 69 a69 := .of Try.func69 (by kernel_rfl) (by kernel_rfl) (by kernel_rfl) (by kernel_rfl)
/-! 70: (*rowlock/writes.Log).pop -/
def b70 : AC :=
  (.seq (.reg [⟨(some 2), (.op (.mv (.k (.slice none 0 0)))), none⟩, ⟨(some 3), (.op (.mv (.k (.int .i64 0)))), none⟩])
  (.seq (.block 0 (.seq (.reg [⟨(some 6), (.op (.mv (.t 0))), none⟩, ⟨(some 7), (.op (.eq false .ptr (.t 6) (.k (.pointer none)))), none⟩, ⟨(some 5), (.op (.mv (.t 7))), none⟩])
  (.cond (.t 5) (.seq (.reg [⟨(some 2), (.op (.mv (.k (.slice none 0 0)))), none⟩, ⟨(some 3), (.op (.mv (.k (.int .i64 1)))), none⟩])
  .ret)
  (.seq (.reg [⟨(some 9), (.op (.mv (.t 0))), none⟩, ⟨(some 10), (.op (.nilchk (.t 9))), none⟩, ⟨(some 11), (.op (.faddr 1 (.t 10))), none⟩, ⟨(some 12), (.op (.load (.t 11))), none⟩, ⟨(some 13), (.op (.bin .eql (.t 12) (.k (.int .i64 0)))), none⟩, ⟨(some 8), (.op (.mv (.t 13))), none⟩])
  (.cond (.t 8) (.seq (.reg [⟨(some 2), (.op (.mv (.k (.slice none 0 0)))), none⟩, ⟨(some 3), (.op (.mv (.k (.int .i64 8)))), none⟩])
  .ret)
  .skip)))))
  (.seq (.reg [⟨(some 14), (.op (.mv (.t 0))), none⟩, ⟨(some 15), (.op (.nilchk (.t 14))), none⟩, ⟨(some 16), (.op (.faddr 0 (.t 15))), none⟩, ⟨(some 17), (.op (.load (.t 16))), none⟩, ⟨(some 18), (.op (.nilchk (.t 17))), none⟩, ⟨(some 19), (.op (.faddr 0 (.t 18))), none⟩, ⟨(some 20), (.op (.load (.t 19))), none⟩, ⟨(some 4), (.op (.mv (.t 20))), none⟩])
  (.seq (.reg [⟨(some 21), (.op (.mv (.t 0))), none⟩, ⟨(some 22), (.op (.mv (.t 0))), none⟩, ⟨(some 23), (.op (.nilchk (.t 22))), none⟩, ⟨(some 24), (.op (.faddr 0 (.t 23))), none⟩, ⟨(some 25), (.op (.load (.t 24))), none⟩, ⟨(some 26), (.op (.nilchk (.t 25))), none⟩, ⟨(some 27), (.op (.faddr 1 (.t 26))), none⟩, ⟨(some 28), (.op (.load (.t 27))), none⟩, ⟨(some 29), (.op (.nilchk (.t 21))), none⟩, ⟨(some 30), (.op (.faddr 0 (.t 29))), none⟩, ⟨none, (.op (.store 1 (.t 30) (.t 28))), none⟩])
  (.seq (.reg [⟨(some 31), (.op (.mv (.t 0))), none⟩, ⟨(some 32), (.op (.nilchk (.t 31))), none⟩, ⟨(some 33), (.op (.faddr 1 (.t 32))), none⟩, ⟨(some 34), (.op (.load (.t 33))), none⟩, ⟨(some 35), (.op (.bin .sub (.t 34) (.k (.int .i64 1)))), none⟩, ⟨(some 36), (.op (.nilchk (.t 31))), none⟩, ⟨(some 37), (.op (.faddr 1 (.t 36))), none⟩, ⟨none, (.op (.store 1 (.t 37) (.t 35))), none⟩])
  (.seq (.reg [⟨(some 38), (.op (.mv (.t 4))), none⟩, ⟨(some 2), (.op (.mv (.t 38))), none⟩, ⟨(some 3), (.op (.mv (.k (.int .i64 0)))), none⟩])
  .ret))))))
def a70 : AF := ⟨39, [(.t 2), (.t 3)], .code b70, none⟩
theorem ok70 : AFOk Try.prog ext 70 a70 := .of Try.func70 (by kernel_rfl) (by kernel_rfl) (by kernel_rfl) (by kernel_rfl)
/-! 71: (rowlock/writes.frame).put -/
def b71 : AC :=
  (.seq (.reg [⟨(some 3), (.op (.box 114 (.t 1))), none⟩, ⟨(some 4), (.op (.mv (.k (.slice none 0 0)))), none⟩])
  (.seq (.reg [⟨(some 7), (.op (.mv (.t 0))), none⟩, ⟨(some 8), (.call (.f 74) [(.t 7)]), none⟩, ⟨(some 5), (.op (.mv (.t 8))), none⟩])
  (.seq (.seq (.reg [⟨(some 9), (.op (.mv (.t 5))), none⟩, ⟨(some 10), (.op (.lenS (.t 9))), none⟩, ⟨(some 11), (.op (.mv (.k (.int .i64 0)))), none⟩])
  (.block 0 (.loop (.seq (.reg [⟨(some 12), (.op (.bin .lss (.t 11) (.t 10))), none⟩])
   (.seq (.cond (.t 12) .skip
   (.exit 0))
   (.seq (.block 1 (.seq (.reg [⟨(some 13), (.op (.mv (.t 11))), none⟩, ⟨(some 6), (.op (.mv (.t 13))), none⟩])
   (.seq (.dreg (.quiet ⟨(some 14), (.op (.mv (.t 5))), none⟩ (.quiet ⟨(some 15), (.op (.mv (.t 6))), none⟩ (.quiet ⟨(some 16), (.op (.iaddrS 2 (.t 14) (.t 15))), none⟩ (.quiet ⟨(some 17), (.op (.faddr 0 (.t 16))), none⟩ (.quiet ⟨(some 18), (.op (.load (.t 17))), none⟩ (.quiet ⟨(some 19), (.op (.faddr 0 (.t 3))), none⟩ (.quiet ⟨(some 20), (.op (.load (.t 19))), none⟩ (.quiet ⟨(some 21), (.op (.bin .eql (.t 18) (.t 20))), none⟩ .nil)))))))))
   (.cond (.t 21) (.seq (.reg [⟨(some 22), (.op (.mv (.t 5))), none⟩, ⟨(some 23), (.op (.mv (.t 6))), none⟩, ⟨(some 24), (.op (.faddr 1 (.t 3))), none⟩, ⟨(some 25), (.op (.load (.t 24))), none⟩, ⟨(some 26), (.op (.iaddrS 2 (.t 22) (.t 23))), none⟩, ⟨(some 27), (.op (.faddr 1 (.t 26))), none⟩, ⟨none, (.op (.store 1 (.t 27) (.t 25))), none⟩])
   (.seq (.reg [⟨(some 28), (.op (.mv (.t 5))), none⟩, ⟨(some 4), (.op (.mv (.t 28))), none⟩])
   .ret))
   .skip))))
   (.reg [⟨(some 29), (.op (.bin .add (.t 11) (.k (.int .i64 1)))), none⟩, ⟨(some 11), (.op (.mv (.t 29))), none⟩])))))))
  (.seq (.reg [⟨(some 30), (.op (.mv (.t 5))), none⟩, ⟨(some 31), (.op (.loadN 2 (.t 3))), none⟩, ⟨(some 32), (.op (.bslice 114 [(.int .i64 0), (.int .u64 0)] 1 [(0, 2, (.t 31))])), none⟩, ⟨(some 33), (.op (.append 114 2 16 (.t 30) (.t 32))), none⟩, ⟨(some 4), (.op (.mv (.t 33))), none⟩])
  .ret))))
def a71 : AF := ⟨34, [(.t 4)], .code b71, none⟩
theorem ok71 : AFOk Try.prog ext 71 a71 := .of Try.func71 (by kernel_rfl) (by kernel_rfl) (by kernel_rfl) (by kernel_rfl)
/-! 72: (*rowlock/writes.Log).Len -/
def b72 : AC :=
  (.seq (.reg [⟨(some 2), (.op (.mv (.k (.int .i64 0)))), none⟩])
  (.seq (.seq (.reg [⟨(some 5), (.op (.mv (.t 0))), none⟩, ⟨(some 6), (.op (.eq false .ptr (.t 5) (.k (.pointer none)))), none⟩])
  (.cond (.t 6) (.seq (.reg [⟨(some 2), (.op (.mv (.k (.int .i64 0)))), none⟩])
  .ret)
  .skip))
  (.seq (.reg [⟨(some 3), (.op (.alloc 3 [(.int .i64 0)])), none⟩, ⟨none, (.op (.store 1 (.t 3) (.k (.int .i64 0)))), none⟩])
  (.seq (.seq (.reg [⟨(some 7), (.op (.mv (.t 0))), none⟩, ⟨(some 8), (.op (.nilchk (.t 7))), none⟩, ⟨(some 9), (.op (.faddr 0 (.t 8))), none⟩, ⟨(some 10), (.op (.load (.t 9))), none⟩, ⟨(some 11), (.call (.f 55) [(.t 10)]), none⟩])
  (.block 0 (.rfunc (.t 11) [12] (.reg [⟨(some 4), (.op (.mv (.t 12))), none⟩])
   (.block 1 (.reg [⟨(some 13), (.op (.load (.t 3))), none⟩, ⟨(some 14), (.op (.mv (.t 4))), none⟩, ⟨(some 15), (.op (.lenS (.t 14))), none⟩, ⟨(some 16), (.op (.bin .add (.t 13) (.t 15))), none⟩, ⟨none, (.op (.store 1 (.t 3) (.t 16))), none⟩])))))
  (.seq (.reg [⟨(some 17), (.op (.load (.t 3))), none⟩, ⟨(some 2), (.op (.mv (.t 17))), none⟩])
  .ret)))))
def a72 : AF := ⟨18, [(.t 2)], .code b72, none⟩
theorem ok72 : AFOk Try.prog ext 72 a72 := .of Try.func72 (by kernel_rfl) (by kernel_rfl) (by kernel_rfl) (by kernel_rfl)
/-! 73: (*rowlock/seqlock.Lock).free$1 -/
def b73 : AC :=
  (.seq (.reg [⟨(some 3), (.op (.load (.t 0))), none⟩, ⟨(some 4), (.op (.eq true .ptr (.t 3) (.k (.pointer none)))), none⟩, ⟨(some 5), (.call (.f 43) [(.t 4), (.k (.int .i64 1))]), none⟩])
  (.seq (.dreg (.quiet ⟨(some 6), (.op (.load (.t 0))), none⟩ (.quiet ⟨(some 7), (.op (.nilchk (.t 6))), none⟩ (.quiet ⟨(some 8), (.op (.faddr 0 (.t 7))), none⟩ (.quiet ⟨(some 9), (.op (.load (.t 8))), none⟩ (.quiet ⟨(some 10), (.op (.eq true .ptr (.t 9) (.k (.pointer none)))), none⟩ (.quiet ⟨(some 11), (.op (.mv (.t 10))), none⟩ (.quiet ⟨(some 12), (.op (.load (.t 0))), (some (11, true))⟩ (.quiet ⟨(some 13), (.op (.nilchk (.t 12))), (some (11, true))⟩ (.quiet ⟨(some 14), (.op (.faddr 0 (.t 13))), (some (11, true))⟩ (.quiet ⟨(some 15), (.op (.load (.t 14))), (some (11, true))⟩ (.quiet ⟨(some 16), (.op (.nilchk (.t 15))), (some (11, true))⟩ (.quiet ⟨(some 17), (.op (.load (.t 16))), (some (11, true))⟩ (.quiet ⟨(some 18), (.op (.load (.t 1))), (some (11, true))⟩ (.quiet ⟨(some 19), (.op (.bin .eql (.t 17) (.t 18))), (some (11, true))⟩ (.quiet ⟨(some 20), (.op (.pick (.t 11) (.t 19) (.k (.bool false)))), none⟩ (.loud ⟨(some 21), (.call (.f 43) [(.t 20), (.k (.int .i64 8))]), none⟩ [] .nil)))))))))))))))))
  (.seq (.reg [⟨(some 22), (.op (.load (.t 0))), none⟩, ⟨(some 23), (.op (.nilchk (.t 22))), none⟩, ⟨(some 24), (.op (.faddr 0 (.t 23))), none⟩, ⟨none, (.op (.store 1 (.t 24) (.k (.pointer none)))), none⟩])
  (.dreg (.quiet ⟨(some 25), (.op (.load (.t 0))), none⟩ (.quiet ⟨(some 26), (.op (.load (.t 2))), none⟩ (.quiet ⟨(some 27), (.op (.load (.t 0))), none⟩ (.quiet ⟨(some 28), (.op (.nilchk (.t 27))), none⟩ (.quiet ⟨(some 29), (.op (.faddr 1 (.t 28))), none⟩ (.quiet ⟨(some 30), (.op (.load (.t 29))), none⟩ (.loud ⟨(some 31), (.call (.t 26) [(.t 30)]), none⟩ [⟨(some 25), (.op (.load (.t 0))), none⟩] (.quiet ⟨(some 32), (.op (.nilchk (.t 25))), none⟩ (.quiet ⟨(some 33), (.op (.faddr 1 (.t 32))), none⟩ (.loud ⟨none, (.op (.store 1 (.t 33) (.t 31))), none⟩ [] .nil))))))))))))))
def a73 : AF := ⟨34, [], .code b73, none⟩
theorem ok73 : AFOk Try.prog ext 73 a73 := .of Try.func73 (by kernel_rfl) (by kernel_rfl) (by kernel_rfl) (by kernel_rfl)
/-! 74: slices.Clone[rowlock/writes.frame,rowlock/api.Pair] -/
def b74 : AC :=
  (.seq (.reg [⟨(some 2), (.op (.mv (.k (.slice none 0 0)))), none⟩])
  (.seq (.seq (.reg [⟨(some 3), (.op (.mv (.t 0))), none⟩, ⟨(some 4), (.isnil false (.t 3)), none⟩])
  (.cond (.t 4) (.seq (.reg [⟨(some 2), (.op (.mv (.k (.slice none 0 0)))), none⟩])
  .ret)
  .skip))
  (.seq (.reg [⟨(some 5), (.op (.bslice 114 [] 0 [])), none⟩, ⟨(some 6), (.op (.mv (.t 0))), none⟩, ⟨(some 7), (.op (.append 114 2 16 (.t 5) (.t 6))), none⟩, ⟨(some 2), (.op (.mv (.t 7))), none⟩])
  .ret)))
def a74 : AF := ⟨8, [(.t 2)], .code b74, none⟩
theorem ok74 : AFOk Try.prog ext 74 a74 := .of Try.func74 (by kernel_rfl) (by kernel_rfl) (by kernel_rfl) (by kernel_rfl)
def forms : FuncId → Option AF
  | 2 => some a2
  | 3 => some a3
  | 4 => some a4
  | 5 => some a5
  | 6 => some a6
  | 7 => some a7
  | 8 => some a8
  | 9 => some a9
  | 10 => some a10
  | 11 => some a11
  | 12 => some a12
  | 13 => some a13
  | 14 => some a14
  | 15 => some a15
  | 16 => some a16
  | 17 => some a17
  | 18 => some a18
  | 19 => some a19
  | 20 => some a20
  | 21 => some a21
  | 22 => some a22
  | 23 => some a23
  | 24 => some a24
  | 25 => some a25
  | 26 => some a26
  | 27 => some a27
  | 28 => some a28
  | 29 => some a29
  | 30 => some a30
  | 31 => some a31
  | 32 => some a32
  | 33 => some a33
  | 34 => some a34
  | 35 => some a35
  | 36 => some a36
  | 37 => some a37
  | 38 => some a38
  | 39 => some a39
  | 40 => some a40
  | 41 => some a41
  | 42 => some a42
  | 43 => some a43
  | 44 => some a44
  | 45 => some a45
  | 46 => some a46
  | 47 => some a47
  | 48 => some a48
  | 49 => some a49
  | 50 => some a50
  | 51 => some a51
  | 52 => some a52
  | 53 => some a53
  | 54 => some a54
  | 55 => some a55
  | 56 => some a56
  | 57 => some a57
  | 58 => some a58
  | 59 => some a59
  | 60 => some a60
  | 61 => some a61
  | 62 => some a62
  | 63 => some a63
  | 64 => some a64
  | 65 => some a65
  | 66 => some a66
  | 67 => some a67
  | 68 => some a68
  | 69 => some a69
  | 70 => some a70
  | 71 => some a71
  | 72 => some a72
  | 73 => some a73
  | 74 => some a74
  | _ => none
theorem forms2 : forms 2 = some a2 := rfl
theorem forms3 : forms 3 = some a3 := rfl
theorem forms4 : forms 4 = some a4 := rfl
theorem forms5 : forms 5 = some a5 := rfl
theorem forms6 : forms 6 = some a6 := rfl
theorem forms7 : forms 7 = some a7 := rfl
theorem forms8 : forms 8 = some a8 := rfl
theorem forms9 : forms 9 = some a9 := rfl
theorem forms10 : forms 10 = some a10 := rfl
theorem forms11 : forms 11 = some a11 := rfl
theorem forms12 : forms 12 = some a12 := rfl
theorem forms13 : forms 13 = some a13 := rfl
theorem forms14 : forms 14 = some a14 := rfl
theorem forms15 : forms 15 = some a15 := rfl
theorem forms16 : forms 16 = some a16 := rfl
theorem forms17 : forms 17 = some a17 := rfl
theorem forms18 : forms 18 = some a18 := rfl
theorem forms19 : forms 19 = some a19 := rfl
theorem forms20 : forms 20 = some a20 := rfl
theorem forms21 : forms 21 = some a21 := rfl
theorem forms22 : forms 22 = some a22 := rfl
theorem forms23 : forms 23 = some a23 := rfl
theorem forms24 : forms 24 = some a24 := rfl
theorem forms25 : forms 25 = some a25 := rfl
theorem forms26 : forms 26 = some a26 := rfl
theorem forms27 : forms 27 = some a27 := rfl
theorem forms28 : forms 28 = some a28 := rfl
theorem forms29 : forms 29 = some a29 := rfl
theorem forms30 : forms 30 = some a30 := rfl
theorem forms31 : forms 31 = some a31 := rfl
theorem forms32 : forms 32 = some a32 := rfl
theorem forms33 : forms 33 = some a33 := rfl
theorem forms34 : forms 34 = some a34 := rfl
theorem forms35 : forms 35 = some a35 := rfl
theorem forms36 : forms 36 = some a36 := rfl
theorem forms37 : forms 37 = some a37 := rfl
theorem forms38 : forms 38 = some a38 := rfl
theorem forms39 : forms 39 = some a39 := rfl
theorem forms40 : forms 40 = some a40 := rfl
theorem forms41 : forms 41 = some a41 := rfl
theorem forms42 : forms 42 = some a42 := rfl
theorem forms43 : forms 43 = some a43 := rfl
theorem forms44 : forms 44 = some a44 := rfl
theorem forms45 : forms 45 = some a45 := rfl
theorem forms46 : forms 46 = some a46 := rfl
theorem forms47 : forms 47 = some a47 := rfl
theorem forms48 : forms 48 = some a48 := rfl
theorem forms49 : forms 49 = some a49 := rfl
theorem forms50 : forms 50 = some a50 := rfl
theorem forms51 : forms 51 = some a51 := rfl
theorem forms52 : forms 52 = some a52 := rfl
theorem forms53 : forms 53 = some a53 := rfl
theorem forms54 : forms 54 = some a54 := rfl
theorem forms55 : forms 55 = some a55 := rfl
theorem forms56 : forms 56 = some a56 := rfl
theorem forms57 : forms 57 = some a57 := rfl
theorem forms58 : forms 58 = some a58 := rfl
theorem forms59 : forms 59 = some a59 := rfl
theorem forms60 : forms 60 = some a60 := rfl
theorem forms61 : forms 61 = some a61 := rfl
theorem forms62 : forms 62 = some a62 := rfl
theorem forms63 : forms 63 = some a63 := rfl
theorem forms64 : forms 64 = some a64 := rfl
theorem forms65 : forms 65 = some a65 := rfl
theorem forms66 : forms 66 = some a66 := rfl
theorem forms67 : forms 67 = some a67 := rfl
theorem forms68 : forms 68 = some a68 := rfl
theorem forms69 : forms 69 = some a69 := rfl
theorem forms70 : forms 70 = some a70 := rfl
theorem forms71 : forms 71 = some a71 := rfl
theorem forms72 : forms 72 = some a72 := rfl
theorem forms73 : forms 73 = some a73 := rfl
theorem forms74 : forms 74 = some a74 := rfl
theorem forms_ok : ∀ f af, forms f = some af → AFOk Try.prog ext f af := by
  intro f af h
  unfold forms at h
  split at h
  · cases h; exact ok2
  · cases h; exact ok3
  · cases h; exact ok4
  · cases h; exact ok5
  · cases h; exact ok6
  · cases h; exact ok7
  · cases h; exact ok8
  · cases h; exact ok9
  · cases h; exact ok10
  · cases h; exact ok11
  · cases h; exact ok12
  · cases h; exact ok13
  · cases h; exact ok14
  · cases h; exact ok15
  · cases h; exact ok16
  · cases h; exact ok17
  · cases h; exact ok18
  · cases h; exact ok19
  · cases h; exact ok20
  · cases h; exact ok21
  · cases h; exact ok22
  · cases h; exact ok23
  · cases h; exact ok24
  · cases h; exact ok25
  · cases h; exact ok26
  · cases h; exact ok27
  · cases h; exact ok28
  · cases h; exact ok29
  · cases h; exact ok30
  · cases h; exact ok31
  · cases h; exact ok32
  · cases h; exact ok33
  · cases h; exact ok34
  · cases h; exact ok35
  · cases h; exact ok36
  · cases h; exact ok37
  · cases h; exact ok38
  · cases h; exact ok39
  · cases h; exact ok40
  · cases h; exact ok41
  · cases h; exact ok42
  · cases h; exact ok43
  · cases h; exact ok44
  · cases h; exact ok45
  · cases h; exact ok46
  · cases h; exact ok47
  · cases h; exact ok48
  · cases h; exact ok49
  · cases h; exact ok50
  · cases h; exact ok51
  · cases h; exact ok52
  · cases h; exact ok53
  · cases h; exact ok54
  · cases h; exact ok55
  · cases h; exact ok56
  · cases h; exact ok57
  · cases h; exact ok58
  · cases h; exact ok59
  · cases h; exact ok60
  · cases h; exact ok61
  · cases h; exact ok62
  · cases h; exact ok63
  · cases h; exact ok64
  · cases h; exact ok65
  · cases h; exact ok66
  · cases h; exact ok67
  · cases h; exact ok68
  · cases h; exact ok69
  · cases h; exact ok70
  · cases h; exact ok71
  · cases h; exact ok72
  · cases h; exact ok73
  · cases h; exact ok74
  · cases h
theorem hext : ExtOk Try.prog ext := ⟨fun f x h => by cases h⟩
theorem hmix : Try.prog.follows .mixedOrders = true := by kernel_rfl
end Ytnemoimbeefngaa
end Go.Proofs
