/-
  THE FUNCTIONS of this seat in their plain form, and that each is the loaded one's.
-/
import Derived.Test.YtapbabkndhaemaaGreatProg
import Derived.Test.YtapbabkndhaemaaGreatPA2
import Derived.Laws.Externs

namespace Go.Proofs
namespace YtapbabkndhaemaaGreat
open Go.Abs
def ext : FuncId → Option Ext1 := fun g => if g = 146 then some .frombits else none
/-! 3: rowlock/rowlocklaw10.Tl2Alone -/
def b3 : AC :=
  (.seq (.reg [⟨(some 2), (.op (.mv (.k (.bool false)))), none⟩])
  (.seq (.reg [⟨(some 6), (.call (.f 11) []), none⟩, ⟨(some 7), (.call (.f 10) [(.t 6), (.k (.int .i64 3))]), none⟩, ⟨(some 3), (.op (.mv (.t 7))), none⟩])
  (.seq (.seq (.reg [⟨(some 8), (.op (.mv (.t 3))), none⟩, ⟨(some 9), (.op (.eq false .ptr (.t 8) (.k (.pointer none)))), none⟩, ⟨(some 10), (.op (.mv (.t 9))), none⟩, ⟨(some 11), (.call (.f 12) []), (some (10, false))⟩, ⟨(some 12), (.op (.un .not (.t 11))), (some (10, false))⟩, ⟨(some 13), (.op (.pick (.t 10) (.k (.bool true)) (.t 12))), none⟩])
  (.cond (.t 13) (.seq (.reg [⟨(some 2), (.op (.mv (.k (.bool false)))), none⟩])
  .ret)
  .skip))
  (.seq (.seq (.reg [⟨(some 4), (.op (.mv (.k (.int .i64 0)))), none⟩])
  (.block 0 (.loop (.seq (.seq (.reg [⟨(some 14), (.op (.mv (.t 4))), none⟩, ⟨(some 15), (.op (.mv (.t 0))), none⟩, ⟨(some 16), (.op (.lenS (.t 15))), none⟩, ⟨(some 17), (.op (.bin .lss (.t 14) (.t 16))), none⟩, ⟨(some 18), (.op (.mv (.t 17))), none⟩, ⟨(some 19), (.op (.mv (.t 4))), (some (18, true))⟩, ⟨(some 20), (.op (.bin .lss (.t 19) (.k (.int .i64 120)))), (some (18, true))⟩, ⟨(some 21), (.op (.pick (.t 18) (.t 20) (.k (.bool false)))), none⟩])
   (.cond (.t 21) .skip
   (.exit 0)))
   (.seq (.block 1 (.seq (.reg [⟨(some 24), (.op (.mv (.t 0))), none⟩, ⟨(some 25), (.op (.mv (.t 4))), none⟩, ⟨(some 26), (.op (.iaddrS 5 (.t 24) (.t 25))), none⟩, ⟨(some 27), (.op (.faddr 0 (.t 26))), none⟩, ⟨(some 28), (.op (.load (.t 27))), none⟩])
   (.block 2 (.seq (.reg [⟨(some 30), (.op (.bin .eql (.t 28) (.k (.int .i64 0)))), none⟩, ⟨(some 29), (.op (.mv (.t 30))), none⟩])
   (.cond (.t 29) (.reg [⟨(some 31), (.op (.mv (.t 3))), none⟩, ⟨(some 32), (.call (.f 13) [(.t 31), (.k (.int .i64 2))]), none⟩])
   (.seq (.reg [⟨(some 34), (.op (.bin .eql (.t 28) (.k (.int .i64 1)))), none⟩, ⟨(some 33), (.op (.mv (.t 34))), none⟩])
   (.cond (.t 33) (.reg [⟨(some 35), (.op (.mv (.t 3))), none⟩, ⟨(some 36), (.op (.mv (.t 0))), none⟩, ⟨(some 37), (.op (.mv (.t 4))), none⟩, ⟨(some 38), (.op (.iaddrS 5 (.t 36) (.t 37))), none⟩, ⟨(some 39), (.op (.faddr 2 (.t 38))), none⟩, ⟨(some 40), (.op (.loadN 3 (.t 39))), none⟩, ⟨(some 41), (.call (.f 14) [(.t 35), (.k (.int .i64 2)), (.t 40)]), none⟩])
   (.seq (.reg [⟨(some 43), (.op (.bin .eql (.t 28) (.k (.int .i64 2)))), none⟩, ⟨(some 42), (.op (.mv (.t 43))), none⟩])
   (.cond (.t 42) (.seq (.reg [⟨(some 44), (.op (.mv (.t 3))), none⟩, ⟨(some 45), (.call (.f 15) [(.t 44), (.k (.int .i64 2))]), none⟩, ⟨(some 5), (.op (.alloc 41 [(.bool false), (.int .u64 0), (.bool false), (.int .i64 0), (.bool false), (.int .u8 0), (.int .i64 0)])), none⟩, ⟨none, (.op (.store 7 (.t 5) (.t 45))), none⟩])
   (.seq (.reg [⟨(some 46), (.op (.faddr 2 (.t 5))), none⟩, ⟨(some 47), (.op (.load (.t 46))), none⟩, ⟨(some 48), (.op (.mv (.t 47))), none⟩, ⟨(some 49), (.op (.faddr 5 (.t 5))), (some (48, false))⟩, ⟨(some 50), (.op (.load (.t 49))), (some (48, false))⟩, ⟨(some 51), (.op (.bin .eql (.t 50) (.k (.int .u8 1)))), (some (48, false))⟩, ⟨(some 52), (.op (.pick (.t 48) (.k (.bool true)) (.t 51))), none⟩])
   (.cond (.t 52) (.seq (.reg [⟨(some 2), (.op (.mv (.k (.bool false)))), none⟩])
   .ret)
   .skip)))
   .skip)))))))))
   (.reg [⟨(some 22), (.op (.mv (.t 4))), none⟩, ⟨(some 23), (.op (.bin .add (.t 22) (.k (.int .i64 1)))), none⟩, ⟨(some 4), (.op (.mv (.t 23))), none⟩]))))))
  (.seq (.reg [⟨(some 2), (.op (.mv (.k (.bool true)))), none⟩])
  .ret)))))
def a3 : AF := ⟨53, [(.t 2)], .code b3, none⟩
theorem ok3 : AFOk Tryz.prog ext 3 a3 := .of Tryz.func3 (by kernel_rfl) (by kernel_rfl) (by kernel_rfl) (by kernel_rfl)
/-! 4: rowlock/rowlocklaw10.Tl2Clock -/
def b4 : AC :=
  (.seq (.reg [⟨(some 3), (.op (.box 34 (.t 1))), none⟩, ⟨(some 4), (.op (.mv (.k (.bool false)))), none⟩])
  (.seq (.reg [⟨(some 11), (.op (.mv (.t 0))), none⟩, ⟨(some 12), (.call (.f 16) [(.t 11)]), none⟩, ⟨(some 5), (.op (.mv (.t 12))), none⟩])
  (.seq (.seq (.reg [⟨(some 13), (.call (.f 12) []), none⟩, ⟨(some 14), (.op (.un .not (.t 13))), none⟩, ⟨(some 15), (.op (.mv (.t 14))), none⟩, ⟨(some 16), (.op (.mv (.t 5))), (some (15, false))⟩, ⟨(some 17), (.op (.eq false .ptr (.t 16) (.k (.pointer none)))), (some (15, false))⟩, ⟨(some 18), (.op (.pick (.t 15) (.k (.bool true)) (.t 17))), none⟩])
  (.cond (.t 18) (.seq (.reg [⟨(some 4), (.op (.mv (.k (.bool false)))), none⟩])
  .ret)
  .skip))
  (.seq (.reg [⟨(some 19), (.op (.mv (.t 5))), none⟩, ⟨(some 20), (.call (.f 17) [(.t 19)]), none⟩, ⟨(some 6), (.op (.mv (.t 20))), none⟩])
  (.seq (.reg [⟨(some 22), (.op (.mv (.t 5))), none⟩, ⟨(some 23), (.op (.faddr 1 (.t 3))), none⟩, ⟨(some 24), (.op (.load (.t 23))), none⟩, ⟨(some 25), (.call (.f 18) [(.t 22), (.t 24)]), none⟩, ⟨(some 21), (.op (.mv (.t 25))), none⟩, ⟨(some 26), (.op (.extract (.t 21) 0)), none⟩, ⟨(some 27), (.op (.extract (.t 21) 1)), none⟩, ⟨(some 7), (.op (.alloc 32 [(.int .u8 0), (.int .i64 0), (.int .u64 0)])), none⟩, ⟨none, (.op (.store 3 (.t 7) (.t 26))), none⟩, ⟨(some 8), (.op (.mv (.t 27))), none⟩])
  (.seq (.reg [⟨(some 28), (.op (.mv (.t 5))), none⟩, ⟨(some 29), (.op (.faddr 1 (.t 3))), none⟩, ⟨(some 30), (.op (.load (.t 29))), none⟩, ⟨(some 31), (.call (.f 19) [(.t 28), (.t 30)]), none⟩, ⟨(some 32), (.op (.lenS (.t 31))), none⟩, ⟨(some 9), (.op (.mv (.t 32))), none⟩])
  (.seq (.reg [⟨(some 33), (.op (.mv (.t 5))), none⟩, ⟨(some 34), (.op (.faddr 1 (.t 3))), none⟩, ⟨(some 35), (.op (.load (.t 34))), none⟩, ⟨(some 36), (.call (.f 15) [(.t 33), (.t 35)]), none⟩])
  (.seq (.reg [⟨(some 37), (.op (.mv (.t 5))), none⟩, ⟨(some 38), (.call (.f 17) [(.t 37)]), none⟩, ⟨(some 10), (.op (.mv (.t 38))), none⟩])
  (.seq (.reg [⟨(some 39), (.op (.mv (.t 10))), none⟩, ⟨(some 40), (.op (.mv (.t 6))), none⟩, ⟨(some 41), (.op (.bin .eql (.t 39) (.t 40))), none⟩, ⟨(some 42), (.op (.mv (.t 41))), none⟩, ⟨(some 43), (.op (.mv (.t 10))), (some (42, false))⟩, ⟨(some 44), (.op (.mv (.t 6))), (some (42, false))⟩, ⟨(some 45), (.op (.bin .add (.t 44) (.k (.int .u64 1)))), (some (42, false))⟩, ⟨(some 46), (.op (.bin .eql (.t 43) (.t 45))), (some (42, false))⟩, ⟨(some 47), (.op (.mv (.t 46))), (some (42, false))⟩, ⟨(some 48), (.op (.mv (.t 8))), (some (47, true))⟩, ⟨(some 49), (.op (.pick (.t 47) (.t 48) (.k (.bool false)))), (some (42, false))⟩, ⟨(some 50), (.op (.mv (.t 49))), (some (42, false))⟩, ⟨(some 51), (.op (.faddr 0 (.t 7))), (some (50, true))⟩, ⟨(some 52), (.op (.load (.t 51))), (some (50, true))⟩, ⟨(some 53), (.op (.bin .eql (.t 52) (.k (.int .u8 6)))), (some (50, true))⟩, ⟨(some 54), (.op (.pick (.t 50) (.t 53) (.k (.bool false)))), (some (42, false))⟩, ⟨(some 55), (.op (.mv (.t 54))), (some (42, false))⟩, ⟨(some 56), (.op (.mv (.t 9))), (some (55, true))⟩, ⟨(some 57), (.op (.bin .gtr (.t 56) (.k (.int .i64 0)))), (some (55, true))⟩, ⟨(some 58), (.op (.pick (.t 55) (.t 57) (.k (.bool false)))), (some (42, false))⟩, ⟨(some 59), (.op (.pick (.t 42) (.k (.bool true)) (.t 58))), none⟩, ⟨(some 4), (.op (.mv (.t 59))), none⟩])
  .ret)))))))))
def a4 : AF := ⟨60, [(.t 4)], .code b4, none⟩
theorem ok4 : AFOk Tryz.prog ext 4 a4 := .of Tryz.func4 (by kernel_rfl) (by kernel_rfl) (by kernel_rfl) (by kernel_rfl)
/-! 5: rowlock/rowlocklaw10.Tl2Gone -/
def b5 : AC :=
  (.seq (.reg [⟨(some 4), (.op (.mv (.k (.bool false)))), none⟩])
  (.seq (.reg [⟨(some 13), (.op (.mv (.t 0))), none⟩, ⟨(some 14), (.call (.f 16) [(.t 13)]), none⟩, ⟨(some 5), (.op (.mv (.t 14))), none⟩])
  (.seq (.seq (.reg [⟨(some 15), (.call (.f 12) []), none⟩, ⟨(some 16), (.op (.un .not (.t 15))), none⟩, ⟨(some 17), (.op (.mv (.t 16))), none⟩, ⟨(some 18), (.op (.mv (.t 5))), (some (17, false))⟩, ⟨(some 19), (.op (.eq false .ptr (.t 18) (.k (.pointer none)))), (some (17, false))⟩, ⟨(some 20), (.op (.pick (.t 17) (.k (.bool true)) (.t 19))), none⟩])
  (.cond (.t 20) (.seq (.reg [⟨(some 4), (.op (.mv (.k (.bool false)))), none⟩])
  .ret)
  .skip))
  (.seq (.reg [⟨(some 21), (.op (.mv (.t 1))), none⟩, ⟨(some 22), (.op (.conv (.int .i64) (.t 21))), none⟩, ⟨(some 23), (.op (.bin .rem (.t 22) (.k (.int .i64 4)))), none⟩, ⟨(some 6), (.op (.mv (.t 23))), none⟩])
  (.seq (.reg [⟨(some 25), (.op (.mv (.t 5))), none⟩, ⟨(some 26), (.op (.mv (.t 6))), none⟩, ⟨(some 27), (.call (.f 20) [(.t 25), (.t 26)]), none⟩, ⟨(some 24), (.op (.mv (.t 27))), none⟩, ⟨(some 28), (.op (.extract (.t 24) 0)), none⟩, ⟨(some 29), (.op (.extract (.t 24) 1)), none⟩, ⟨(some 7), (.op (.mv (.t 28))), none⟩, ⟨(some 8), (.op (.mv (.t 29))), none⟩])
  (.seq (.reg [⟨(some 30), (.op (.mv (.t 5))), none⟩, ⟨(some 31), (.call (.f 21) [(.t 30)]), none⟩, ⟨(some 9), (.op (.mv (.t 31))), none⟩])
  (.seq (.reg [⟨(some 32), (.op (.mv (.t 5))), none⟩, ⟨(some 33), (.op (.mv (.t 6))), none⟩, ⟨(some 34), (.call (.f 22) [(.t 32), (.t 33)]), none⟩, ⟨(some 10), (.op (.mv (.t 34))), none⟩])
  (.seq (.seq (.reg [⟨(some 35), (.op (.mv (.t 10))), none⟩, ⟨(some 36), (.op (.bin .neq (.t 35) (.k (.int .i64 0)))), none⟩])
  (.cond (.t 36) (.seq (.reg [⟨(some 37), (.op (.mv (.t 10))), none⟩, ⟨(some 38), (.op (.bin .eql (.t 37) (.k (.int .i64 8)))), none⟩, ⟨(some 39), (.op (.mv (.t 38))), none⟩, ⟨(some 40), (.op (.mv (.t 8))), (some (39, true))⟩, ⟨(some 41), (.op (.un .not (.t 40))), (some (39, true))⟩, ⟨(some 42), (.op (.mv (.t 41))), (some (39, true))⟩, ⟨(some 43), (.op (.mv (.t 5))), (some (42, false))⟩, ⟨(some 44), (.call (.f 24) [(.t 43)]), (some (42, false))⟩, ⟨(some 45), (.op (.mv (.t 7))), (some (42, false))⟩, ⟨(some 46), (.call (.f 23) [(.t 44), (.t 45)]), (some (42, false))⟩, ⟨(some 47), (.op (.pick (.t 42) (.k (.bool true)) (.t 46))), (some (39, true))⟩, ⟨(some 48), (.op (.pick (.t 39) (.t 47) (.k (.bool false)))), none⟩, ⟨(some 4), (.op (.mv (.t 48))), none⟩])
  .ret)
  .skip))
  (.seq (.reg [⟨(some 50), (.op (.mv (.t 5))), none⟩, ⟨(some 51), (.op (.mv (.t 6))), none⟩, ⟨(some 52), (.call (.f 20) [(.t 50), (.t 51)]), none⟩, ⟨(some 49), (.op (.mv (.t 52))), none⟩, ⟨(some 53), (.op (.extract (.t 49) 0)), none⟩, ⟨(some 54), (.op (.extract (.t 49) 1)), none⟩, ⟨(some 11), (.op (.mv (.t 53))), none⟩, ⟨(some 12), (.op (.mv (.t 54))), none⟩])
  (.seq (.reg [⟨(some 55), (.op (.mv (.t 8))), none⟩, ⟨(some 56), (.op (.mv (.t 55))), none⟩, ⟨(some 57), (.op (.mv (.t 12))), (some (56, true))⟩, ⟨(some 58), (.op (.un .not (.t 57))), (some (56, true))⟩, ⟨(some 59), (.op (.pick (.t 56) (.t 58) (.k (.bool false)))), none⟩, ⟨(some 60), (.op (.mv (.t 59))), none⟩, ⟨(some 61), (.op (.mv (.t 5))), (some (60, true))⟩, ⟨(some 62), (.op (.mv (.t 6))), (some (60, true))⟩, ⟨(some 63), (.call (.f 25) [(.t 61), (.t 62)]), (some (60, true))⟩, ⟨(some 64), (.op (.un .not (.t 63))), (some (60, true))⟩, ⟨(some 65), (.op (.pick (.t 60) (.t 64) (.k (.bool false)))), none⟩, ⟨(some 66), (.op (.mv (.t 65))), none⟩, ⟨(some 67), (.op (.mv (.t 5))), (some (66, true))⟩, ⟨(some 68), (.call (.f 21) [(.t 67)]), (some (66, true))⟩, ⟨(some 69), (.op (.mv (.t 9))), (some (66, true))⟩, ⟨(some 70), (.call (.f 26) [(.t 68), (.t 69)]), (some (66, true))⟩, ⟨(some 71), (.op (.pick (.t 66) (.t 70) (.k (.bool false)))), none⟩, ⟨(some 72), (.op (.mv (.t 71))), none⟩, ⟨(some 73), (.op (.mv (.t 5))), (some (72, true))⟩, ⟨(some 74), (.op (.mv (.t 7))), (some (72, true))⟩, ⟨(some 75), (.call (.f 27) [(.t 73), (.t 74)]), (some (72, true))⟩, ⟨(some 76), (.op (.bin .eql (.t 75) (.k (.int .u8 3)))), (some (72, true))⟩, ⟨(some 77), (.op (.pick (.t 72) (.t 76) (.k (.bool false)))), none⟩, ⟨(some 78), (.op (.mv (.t 77))), none⟩, ⟨(some 79), (.op (.mv (.t 5))), (some (78, true))⟩, ⟨(some 80), (.op (.mv (.t 6))), (some (78, true))⟩, ⟨(some 81), (.op (.build [(.int .u8 0), (.int .i64 0), (.int .u64 0)] [(0, 1, (.k (.int .u8 6)))])), (some (78, true))⟩, ⟨(some 82), (.call (.f 14) [(.t 79), (.t 80), (.t 81)]), (some (78, true))⟩, ⟨(some 83), (.op (.bin .eql (.t 82) (.k (.int .i64 8)))), (some (78, true))⟩, ⟨(some 84), (.op (.pick (.t 78) (.t 83) (.k (.bool false)))), none⟩, ⟨(some 4), (.op (.mv (.t 84))), none⟩])
  .ret))))))))))
def a5 : AF := ⟨85, [(.t 4)], .code b5, none⟩
theorem ok5 : AFOk Tryz.prog ext 5 a5 := .of Tryz.func5 (by kernel_rfl) (by kernel_rfl) (by kernel_rfl) (by kernel_rfl)
/-! 9: rowlock/rowlocklaw10.Tl2None -/
def b9 : AC :=
  (.seq (.reg [⟨(some 3), (.op (.box 34 (.t 0))), none⟩, ⟨(some 6), (.op (.mv (.k (.bool false)))), none⟩])
  (.seq (.reg [⟨(some 7), (.op (.mv (.k (.pointer none)))), none⟩])
  (.seq (.reg [⟨(some 16), (.op (.mv (.t 7))), none⟩, ⟨(some 17), (.op (.faddr 1 (.t 3))), none⟩, ⟨(some 18), (.op (.load (.t 17))), none⟩, ⟨(some 19), (.call (.f 13) [(.t 16), (.t 18)]), none⟩, ⟨(some 15), (.op (.mv (.t 19))), none⟩, ⟨(some 20), (.op (.extract (.t 15) 0)), none⟩, ⟨(some 21), (.op (.extract (.t 15) 1)), none⟩, ⟨(some 8), (.op (.mv (.t 20))), none⟩, ⟨(some 9), (.op (.mv (.t 21))), none⟩])
  (.seq (.reg [⟨(some 23), (.op (.mv (.t 7))), none⟩, ⟨(some 24), (.op (.faddr 1 (.t 3))), none⟩, ⟨(some 25), (.op (.load (.t 24))), none⟩, ⟨(some 26), (.call (.f 20) [(.t 23), (.t 25)]), none⟩, ⟨(some 22), (.op (.mv (.t 26))), none⟩, ⟨(some 27), (.op (.extract (.t 22) 0)), none⟩, ⟨(some 28), (.op (.extract (.t 22) 1)), none⟩, ⟨(some 10), (.op (.mv (.t 27))), none⟩, ⟨(some 11), (.op (.mv (.t 28))), none⟩])
  (.seq (.reg [⟨(some 30), (.op (.mv (.t 7))), none⟩, ⟨(some 31), (.op (.faddr 1 (.t 3))), none⟩, ⟨(some 32), (.op (.load (.t 31))), none⟩, ⟨(some 33), (.call (.f 18) [(.t 30), (.t 32)]), none⟩, ⟨(some 29), (.op (.mv (.t 33))), none⟩, ⟨(some 34), (.op (.extract (.t 29) 0)), none⟩, ⟨(some 35), (.op (.extract (.t 29) 1)), none⟩, ⟨(some 12), (.op (.alloc 32 [(.int .u8 0), (.int .i64 0), (.int .u64 0)])), none⟩, ⟨none, (.op (.store 3 (.t 12) (.t 34))), none⟩, ⟨(some 13), (.op (.mv (.t 35))), none⟩])
  (.seq (.reg [⟨(some 36), (.op (.mv (.t 1))), none⟩, ⟨(some 37), (.call (.f 37) [(.t 36)]), none⟩, ⟨(some 38), (.op (.mv (.t 37))), none⟩, ⟨(some 39), (.op (.mv (.t 2))), (some (38, true))⟩, ⟨(some 40), (.call (.f 38) [(.t 39)]), (some (38, true))⟩, ⟨(some 41), (.op (.eq true .ptr (.t 40) (.k (.pointer none)))), (some (38, true))⟩, ⟨(some 42), (.op (.pick (.t 38) (.t 41) (.k (.bool false)))), none⟩, ⟨(some 14), (.op (.mv (.t 42))), none⟩])
  (.seq (.reg [⟨(some 43), (.call (.f 12) []), none⟩, ⟨(some 44), (.op (.mv (.t 43))), none⟩, ⟨(some 45), (.op (.mv (.t 8))), (some (44, true))⟩, ⟨(some 46), (.op (.bin .eql (.t 45) (.k (.int .i64 0)))), (some (44, true))⟩, ⟨(some 47), (.op (.pick (.t 44) (.t 46) (.k (.bool false)))), none⟩, ⟨(some 48), (.op (.mv (.t 47))), none⟩, ⟨(some 49), (.op (.mv (.t 9))), (some (48, true))⟩, ⟨(some 50), (.op (.bin .eql (.t 49) (.k (.int .i64 1)))), (some (48, true))⟩, ⟨(some 51), (.op (.pick (.t 48) (.t 50) (.k (.bool false)))), none⟩, ⟨(some 52), (.op (.mv (.t 51))), none⟩, ⟨(some 53), (.op (.mv (.t 7))), (some (52, true))⟩, ⟨(some 54), (.op (.faddr 1 (.t 3))), (some (52, true))⟩, ⟨(some 55), (.op (.load (.t 54))), (some (52, true))⟩, ⟨(some 56), (.op (.faddr 2 (.t 3))), (some (52, true))⟩, ⟨(some 57), (.op (.loadN 3 (.t 56))), (some (52, true))⟩, ⟨(some 58), (.call (.f 14) [(.t 53), (.t 55), (.t 57)]), (some (52, true))⟩, ⟨(some 59), (.op (.bin .eql (.t 58) (.k (.int .i64 1)))), (some (52, true))⟩, ⟨(some 60), (.op (.pick (.t 52) (.t 59) (.k (.bool false)))), none⟩, ⟨(some 61), (.op (.mv (.t 60))), none⟩, ⟨(some 62), (.op (.mv (.t 7))), (some (61, true))⟩, ⟨(some 63), (.op (.faddr 1 (.t 3))), (some (61, true))⟩, ⟨(some 64), (.op (.load (.t 63))), (some (61, true))⟩, ⟨(some 65), (.call (.f 15) [(.t 62), (.t 64)]), (some (61, true))⟩, ⟨(some 66), (.op (.build [(.bool false), (.int .u64 0), (.bool false), (.int .i64 0), (.bool false), (.int .u8 0), (.int .i64 0)] [(6, 1, (.k (.int .i64 1)))])), (some (61, true))⟩, ⟨(some 67), (.op (.eq false (.st [(0, 1, false, .bool), (1, 1, false, .int), (2, 1, false, .bool), (3, 1, false, .int), (4, 1, false, .bool), (5, 1, false, .int), (6, 1, false, .int)]) (.t 65) (.t 66))), (some (61, true))⟩, ⟨(some 68), (.op (.pick (.t 61) (.t 67) (.k (.bool false)))), none⟩, ⟨(some 69), (.op (.mv (.t 68))), none⟩, ⟨(some 70), (.op (.mv (.t 7))), (some (69, true))⟩, ⟨(some 71), (.op (.faddr 1 (.t 3))), (some (69, true))⟩, ⟨(some 72), (.op (.load (.t 71))), (some (69, true))⟩, ⟨(some 73), (.call (.f 22) [(.t 70), (.t 72)]), (some (69, true))⟩, ⟨(some 74), (.op (.bin .eql (.t 73) (.k (.int .i64 1)))), (some (69, true))⟩, ⟨(some 75), (.op (.pick (.t 69) (.t 74) (.k (.bool false)))), none⟩, ⟨(some 76), (.op (.mv (.t 75))), none⟩, ⟨(some 77), (.op (.mv (.t 7))), (some (76, true))⟩, ⟨(some 78), (.call (.f 21) [(.t 77)]), (some (76, true))⟩, ⟨(some 79), (.op (.lenS (.t 78))), (some (76, true))⟩, ⟨(some 80), (.op (.bin .eql (.t 79) (.k (.int .i64 0)))), (some (76, true))⟩, ⟨(some 81), (.op (.pick (.t 76) (.t 80) (.k (.bool false)))), none⟩, ⟨(some 82), (.op (.mv (.t 81))), none⟩, ⟨(some 83), (.op (.mv (.t 7))), (some (82, true))⟩, ⟨(some 84), (.call (.f 29) [(.t 83)]), (some (82, true))⟩, ⟨(some 85), (.op (.lenS (.t 84))), (some (82, true))⟩, ⟨(some 86), (.op (.bin .eql (.t 85) (.k (.int .i64 0)))), (some (82, true))⟩, ⟨(some 87), (.op (.pick (.t 82) (.t 86) (.k (.bool false)))), none⟩, ⟨(some 88), (.op (.mv (.t 87))), none⟩, ⟨(some 89), (.op (.mv (.t 7))), (some (88, true))⟩, ⟨(some 90), (.call (.f 30) [(.t 89)]), (some (88, true))⟩, ⟨(some 91), (.op (.lenS (.t 90))), (some (88, true))⟩, ⟨(some 92), (.op (.bin .eql (.t 91) (.k (.int .i64 0)))), (some (88, true))⟩, ⟨(some 93), (.op (.pick (.t 88) (.t 92) (.k (.bool false)))), none⟩, ⟨(some 94), (.op (.mv (.t 93))), none⟩, ⟨(some 95), (.op (.mv (.t 7))), (some (94, true))⟩, ⟨(some 96), (.call (.f 24) [(.t 95)]), (some (94, true))⟩, ⟨(some 97), (.op (.lenS (.t 96))), (some (94, true))⟩, ⟨(some 98), (.op (.bin .eql (.t 97) (.k (.int .i64 0)))), (some (94, true))⟩, ⟨(some 99), (.op (.pick (.t 94) (.t 98) (.k (.bool false)))), none⟩, ⟨(some 100), (.op (.mv (.t 99))), none⟩, ⟨(some 101), (.op (.mv (.t 7))), (some (100, true))⟩, ⟨(some 102), (.op (.mv (.t 2))), (some (100, true))⟩, ⟨(some 103), (.call (.f 27) [(.t 101), (.t 102)]), (some (100, true))⟩, ⟨(some 104), (.op (.bin .eql (.t 103) (.k (.int .u8 0)))), (some (100, true))⟩, ⟨(some 105), (.op (.pick (.t 100) (.t 104) (.k (.bool false)))), none⟩, ⟨(some 106), (.op (.mv (.t 105))), none⟩, ⟨(some 107), (.op (.mv (.t 10))), (some (106, true))⟩, ⟨(some 108), (.op (.bin .eql (.t 107) (.k (.int .i64 0)))), (some (106, true))⟩, ⟨(some 109), (.op (.pick (.t 106) (.t 108) (.k (.bool false)))), none⟩, ⟨(some 110), (.op (.mv (.t 109))), none⟩, ⟨(some 111), (.op (.mv (.t 11))), (some (110, true))⟩, ⟨(some 112), (.op (.un .not (.t 111))), (some (110, true))⟩, ⟨(some 113), (.op (.pick (.t 110) (.t 112) (.k (.bool false)))), none⟩, ⟨(some 114), (.op (.mv (.t 113))), none⟩, ⟨(some 115), (.op (.loadN 3 (.t 12))), (some (114, true))⟩, ⟨(some 116), (.op (.build [(.int .u8 0), (.int .i64 0), (.int .u64 0)] [])), (some (114, true))⟩, ⟨(some 117), (.op (.eq false (.st [(0, 1, false, .int), (1, 1, false, .int), (2, 1, false, .int)]) (.t 115) (.t 116))), (some (114, true))⟩, ⟨(some 118), (.op (.pick (.t 114) (.t 117) (.k (.bool false)))), none⟩, ⟨(some 119), (.op (.mv (.t 118))), none⟩, ⟨(some 120), (.op (.mv (.t 13))), (some (119, true))⟩, ⟨(some 121), (.op (.un .not (.t 120))), (some (119, true))⟩, ⟨(some 122), (.op (.pick (.t 119) (.t 121) (.k (.bool false)))), none⟩, ⟨(some 123), (.op (.mv (.t 122))), none⟩, ⟨(some 124), (.op (.mv (.t 7))), (some (123, true))⟩, ⟨(some 125), (.op (.faddr 1 (.t 3))), (some (123, true))⟩, ⟨(some 126), (.op (.load (.t 125))), (some (123, true))⟩, ⟨(some 127), (.call (.f 39) [(.t 124), (.t 126)]), (some (123, true))⟩, ⟨(some 128), (.op (.lenS (.t 127))), (some (123, true))⟩, ⟨(some 129), (.op (.bin .eql (.t 128) (.k (.int .i64 0)))), (some (123, true))⟩, ⟨(some 130), (.op (.pick (.t 123) (.t 129) (.k (.bool false)))), none⟩, ⟨(some 131), (.op (.mv (.t 130))), none⟩, ⟨(some 132), (.op (.mv (.t 7))), (some (131, true))⟩, ⟨(some 133), (.op (.faddr 1 (.t 3))), (some (131, true))⟩, ⟨(some 134), (.op (.load (.t 133))), (some (131, true))⟩, ⟨(some 135), (.call (.f 19) [(.t 132), (.t 134)]), (some (131, true))⟩, ⟨(some 136), (.op (.lenS (.t 135))), (some (131, true))⟩, ⟨(some 137), (.op (.bin .eql (.t 136) (.k (.int .i64 0)))), (some (131, true))⟩, ⟨(some 138), (.op (.pick (.t 131) (.t 137) (.k (.bool false)))), none⟩, ⟨(some 139), (.op (.mv (.t 138))), none⟩, ⟨(some 140), (.op (.mv (.t 7))), (some (139, true))⟩, ⟨(some 141), (.op (.faddr 1 (.t 3))), (some (139, true))⟩, ⟨(some 142), (.op (.load (.t 141))), (some (139, true))⟩, ⟨(some 143), (.call (.f 25) [(.t 140), (.t 142)]), (some (139, true))⟩, ⟨(some 144), (.op (.un .not (.t 143))), (some (139, true))⟩, ⟨(some 145), (.op (.pick (.t 139) (.t 144) (.k (.bool false)))), none⟩, ⟨(some 146), (.op (.mv (.t 145))), none⟩, ⟨(some 147), (.op (.mv (.t 7))), (some (146, true))⟩, ⟨(some 148), (.op (.faddr 1 (.t 3))), (some (146, true))⟩, ⟨(some 149), (.op (.load (.t 148))), (some (146, true))⟩, ⟨(some 150), (.call (.f 40) [(.t 147), (.t 149)]), (some (146, true))⟩, ⟨(some 151), (.op (.un .not (.t 150))), (some (146, true))⟩, ⟨(some 152), (.op (.pick (.t 146) (.t 151) (.k (.bool false)))), none⟩, ⟨(some 153), (.op (.mv (.t 152))), none⟩, ⟨(some 154), (.op (.mv (.t 7))), (some (153, true))⟩, ⟨(some 155), (.call (.f 17) [(.t 154)]), (some (153, true))⟩, ⟨(some 156), (.op (.bin .eql (.t 155) (.k (.int .u64 0)))), (some (153, true))⟩, ⟨(some 157), (.op (.pick (.t 153) (.t 156) (.k (.bool false)))), none⟩, ⟨(some 158), (.op (.mv (.t 157))), none⟩, ⟨(some 159), (.op (.mv (.t 7))), (some (158, true))⟩, ⟨(some 160), (.call (.f 33) [(.t 159)]), (some (158, true))⟩, ⟨(some 161), (.op (.eq false .ptr (.t 160) (.k (.pointer none)))), (some (158, true))⟩, ⟨(some 162), (.op (.pick (.t 158) (.t 161) (.k (.bool false)))), none⟩, ⟨(some 163), (.op (.mv (.t 162))), none⟩, ⟨(some 164), (.op (.mv (.t 1))), (some (163, true))⟩, ⟨(some 165), (.op (.mv (.t 2))), (some (163, true))⟩, ⟨(some 166), (.call (.f 10) [(.t 164), (.t 165)]), (some (163, true))⟩, ⟨(some 167), (.op (.eq true .ptr (.t 166) (.k (.pointer none)))), (some (163, true))⟩, ⟨(some 168), (.op (.mv (.t 14))), (some (163, true))⟩, ⟨(some 169), (.op (.eq false .bool (.t 167) (.t 168))), (some (163, true))⟩, ⟨(some 170), (.op (.pick (.t 163) (.t 169) (.k (.bool false)))), none⟩, ⟨(some 6), (.op (.mv (.t 170))), none⟩])
  .ret)))))))
def a9 : AF := ⟨171, [(.t 6)], .code b9, none⟩
theorem ok9 : AFOk Tryz.prog ext 9 a9 := .of Tryz.func9 (by kernel_rfl) (by kernel_rfl) (by kernel_rfl) (by kernel_rfl)
/-! 10: rowlock/tl2.New -/
def b10 : AC :=
  (.seq (.reg [⟨(some 4), (.op (.mv (.k (.pointer none)))), none⟩])
  (.seq (.reg [⟨(some 7), (.op (.mv (.t 1))), none⟩, ⟨(some 8), (.call (.f 41) [(.t 7)]), none⟩, ⟨(some 5), (.op (.mv (.t 8))), none⟩])
  (.seq (.reg [⟨(some 6), (.op (.mv (.f 42))), none⟩])
  (.seq (.seq (.reg [⟨(some 9), (.op (.mv (.t 0))), none⟩, ⟨(some 10), (.op (.lenS (.t 9))), none⟩, ⟨(some 11), (.op (.bin .lss (.t 10) (.k (.int .i64 1)))), none⟩, ⟨(some 12), (.op (.mv (.t 11))), none⟩, ⟨(some 13), (.op (.mv (.t 0))), (some (12, false))⟩, ⟨(some 14), (.op (.lenS (.t 13))), (some (12, false))⟩, ⟨(some 15), (.op (.bin .gtr (.t 14) (.k (.int .i64 12)))), (some (12, false))⟩, ⟨(some 16), (.op (.pick (.t 12) (.k (.bool true)) (.t 15))), none⟩, ⟨(some 17), (.op (.mv (.t 16))), none⟩, ⟨(some 18), (.op (.mv (.t 0))), (some (17, false))⟩, ⟨(some 19), (.op (.mv (.t 6))), (some (17, false))⟩, ⟨(some 20), (.call (.f 44) [(.t 18), (.t 19)]), (some (17, false))⟩, ⟨(some 21), (.op (.pick (.t 17) (.k (.bool true)) (.t 20))), none⟩, ⟨(some 22), (.op (.mv (.t 21))), none⟩, ⟨(some 23), (.op (.mv (.t 5))), (some (22, false))⟩, ⟨(some 24), (.op (.eq false .ptr (.t 23) (.k (.pointer none)))), (some (22, false))⟩, ⟨(some 25), (.op (.pick (.t 22) (.k (.bool true)) (.t 24))), none⟩])
  (.cond (.t 25) (.seq (.reg [⟨(some 4), (.op (.mv (.k (.pointer none)))), none⟩])
  .ret)
  .skip))
  (.seq (.reg [⟨(some 26), (.op (.mv (.t 5))), none⟩, ⟨(some 27), (.op (.mv (.t 0))), none⟩, ⟨(some 28), (.call (.f 45) [(.t 27)]), none⟩, ⟨(some 29), (.op (.build [(.pointer none), (.slice none 0 0), (.pointer none), (.pointer none), (.pointer none), (.pointer none), (.slice none 0 0), (.slice none 0 0)] [(0, 1, (.t 26)), (1, 1, (.t 28))])), none⟩, ⟨(some 30), (.op (.box 89 (.t 29))), none⟩, ⟨(some 4), (.op (.mv (.t 30))), none⟩])
  .ret)))))
def a10 : AF := ⟨31, [(.t 4)], .code b10, none⟩
theorem ok10 : AFOk Tryz.prog ext 10 a10 := .of Tryz.func10 (by kernel_rfl) (by kernel_rfl) (by kernel_rfl) (by kernel_rfl)
/-! 11: rowlock/rowlocklaw10.first -/
def b11 : AC :=
  (.seq (.reg [⟨(some 0), (.op (.mv (.k (.slice none 0 0)))), none⟩])
  (.seq (.reg [⟨(some 1), (.op (.bslice 30 [(.int .u64 0), (.int .u64 0), (.int .u64 0), (.int .u64 0), (.int .u64 0)] 5 [(0, 1, (.k (.int .u64 0))), (1, 1, (.k (.int .u64 4607182418800017408))), (2, 1, (.k (.int .u64 9221120237041090560))), (3, 1, (.k (.int .u64 9223372036854775808))), (4, 1, (.k (.int .u64 0)))])), none⟩, ⟨(some 0), (.op (.mv (.t 1))), none⟩])
  .ret))
def a11 : AF := ⟨2, [(.t 0)], .code b11, none⟩
theorem ok11 : AFOk Tryz.prog ext 11 a11 := .of Tryz.func11 (by kernel_rfl) (by kernel_rfl) (by kernel_rfl) (by kernel_rfl)
/-! 12: rowlock/rowlocklaw10.live -/
def b12 : AC :=
  (.seq (.reg [⟨(some 0), (.op (.mv (.k (.bool false)))), none⟩])
  (.seq (.reg [⟨(some 8), (.call (.f 11) []), none⟩, ⟨(some 9), (.call (.f 10) [(.t 8), (.k (.int .i64 3))]), none⟩, ⟨(some 1), (.op (.mv (.t 9))), none⟩])
  (.seq (.reg [⟨(some 11), (.op (.mv (.t 1))), none⟩, ⟨(some 12), (.call (.f 13) [(.t 11), (.k (.int .i64 1))]), none⟩, ⟨(some 10), (.op (.mv (.t 12))), none⟩, ⟨(some 13), (.op (.extract (.t 10) 0)), none⟩, ⟨(some 14), (.op (.extract (.t 10) 1)), none⟩, ⟨(some 2), (.op (.mv (.t 13))), none⟩, ⟨(some 3), (.op (.mv (.t 14))), none⟩])
  (.seq (.reg [⟨(some 15), (.op (.mv (.t 1))), none⟩, ⟨(some 16), (.op (.build [(.int .u8 0), (.int .i64 0), (.int .u64 0)] [(0, 1, (.k (.int .u8 1))), (1, 1, (.k (.int .i64 1)))])), none⟩, ⟨(some 17), (.call (.f 14) [(.t 15), (.k (.int .i64 1)), (.t 16)]), none⟩, ⟨(some 4), (.op (.mv (.t 17))), none⟩])
  (.seq (.reg [⟨(some 18), (.op (.mv (.t 1))), none⟩, ⟨(some 19), (.call (.f 15) [(.t 18), (.k (.int .i64 1))]), none⟩])
  (.seq (.reg [⟨(some 20), (.op (.mv (.t 1))), none⟩, ⟨(some 21), (.call (.f 15) [(.t 20), (.k (.int .i64 1))]), none⟩])
  (.seq (.reg [⟨(some 22), (.op (.mv (.t 1))), none⟩, ⟨(some 23), (.call (.f 15) [(.t 22), (.k (.int .i64 1))]), none⟩, ⟨(some 5), (.op (.alloc 41 [(.bool false), (.int .u64 0), (.bool false), (.int .i64 0), (.bool false), (.int .u8 0), (.int .i64 0)])), none⟩, ⟨none, (.op (.store 7 (.t 5) (.t 23))), none⟩])
  (.seq (.reg [⟨(some 24), (.op (.mv (.t 1))), none⟩, ⟨(some 25), (.op (.build [(.int .u8 0), (.int .i64 0), (.int .u64 0)] [(0, 1, (.k (.int .u8 6)))])), none⟩, ⟨(some 26), (.call (.f 14) [(.t 24), (.k (.int .i64 1)), (.t 25)]), none⟩, ⟨(some 6), (.op (.mv (.t 26))), none⟩])
  (.seq (.reg [⟨(some 27), (.op (.mv (.t 1))), none⟩, ⟨(some 28), (.call (.f 15) [(.t 27), (.k (.int .i64 1))]), none⟩, ⟨(some 7), (.op (.alloc 41 [(.bool false), (.int .u64 0), (.bool false), (.int .i64 0), (.bool false), (.int .u8 0), (.int .i64 0)])), none⟩, ⟨none, (.op (.store 7 (.t 7) (.t 28))), none⟩])
  (.seq (.reg [⟨(some 29), (.op (.mv (.t 2))), none⟩, ⟨(some 30), (.op (.bin .eql (.t 29) (.k (.int .i64 0)))), none⟩, ⟨(some 31), (.op (.mv (.t 30))), none⟩, ⟨(some 32), (.op (.mv (.t 3))), (some (31, true))⟩, ⟨(some 33), (.op (.bin .eql (.t 32) (.k (.int .i64 0)))), (some (31, true))⟩, ⟨(some 34), (.op (.pick (.t 31) (.t 33) (.k (.bool false)))), none⟩, ⟨(some 35), (.op (.mv (.t 34))), none⟩, ⟨(some 36), (.op (.mv (.t 4))), (some (35, true))⟩, ⟨(some 37), (.op (.bin .eql (.t 36) (.k (.int .i64 0)))), (some (35, true))⟩, ⟨(some 38), (.op (.pick (.t 35) (.t 37) (.k (.bool false)))), none⟩, ⟨(some 39), (.op (.mv (.t 38))), none⟩, ⟨(some 40), (.op (.mv (.t 6))), (some (39, true))⟩, ⟨(some 41), (.op (.bin .eql (.t 40) (.k (.int .i64 0)))), (some (39, true))⟩, ⟨(some 42), (.op (.pick (.t 39) (.t 41) (.k (.bool false)))), none⟩, ⟨(some 43), (.op (.mv (.t 42))), none⟩, ⟨(some 44), (.op (.faddr 0 (.t 5))), (some (43, true))⟩, ⟨(some 45), (.op (.load (.t 44))), (some (43, true))⟩, ⟨(some 46), (.op (.pick (.t 43) (.t 45) (.k (.bool false)))), none⟩, ⟨(some 47), (.op (.mv (.t 46))), none⟩, ⟨(some 48), (.op (.faddr 1 (.t 5))), (some (47, true))⟩, ⟨(some 49), (.op (.load (.t 48))), (some (47, true))⟩, ⟨(some 50), (.op (.bin .eql (.t 49) (.k (.int .u64 4607182418800017408)))), (some (47, true))⟩, ⟨(some 51), (.op (.pick (.t 47) (.t 50) (.k (.bool false)))), none⟩, ⟨(some 52), (.op (.mv (.t 51))), none⟩, ⟨(some 53), (.op (.faddr 4 (.t 7))), (some (52, true))⟩, ⟨(some 54), (.op (.load (.t 53))), (some (52, true))⟩, ⟨(some 55), (.op (.pick (.t 52) (.t 54) (.k (.bool false)))), none⟩, ⟨(some 56), (.op (.mv (.t 55))), none⟩, ⟨(some 57), (.op (.faddr 5 (.t 7))), (some (56, true))⟩, ⟨(some 58), (.op (.load (.t 57))), (some (56, true))⟩, ⟨(some 59), (.op (.bin .eql (.t 58) (.k (.int .u8 0)))), (some (56, true))⟩, ⟨(some 60), (.op (.pick (.t 56) (.t 59) (.k (.bool false)))), none⟩, ⟨(some 61), (.op (.mv (.t 60))), none⟩, ⟨(some 62), (.op (.mv (.t 1))), (some (61, true))⟩, ⟨(some 63), (.call (.f 29) [(.t 62)]), (some (61, true))⟩, ⟨(some 64), (.op (.lenS (.t 63))), (some (61, true))⟩, ⟨(some 65), (.op (.bin .eql (.t 64) (.k (.int .i64 4)))), (some (61, true))⟩, ⟨(some 66), (.op (.pick (.t 61) (.t 65) (.k (.bool false)))), none⟩, ⟨(some 0), (.op (.mv (.t 66))), none⟩])
  .ret))))))))))
def a12 : AF := ⟨67, [(.t 0)], .code b12, none⟩
theorem ok12 : AFOk Tryz.prog ext 12 a12 := .of Tryz.func12 (by kernel_rfl) (by kernel_rfl) (by kernel_rfl) (by kernel_rfl)
/-! 13: (*rowlock/tl2.Engine).Begin -/
def b13 : AC :=
  (.seq (.reg [⟨(some 4), (.op (.mv (.k (.int .i64 0)))), none⟩, ⟨(some 5), (.op (.mv (.k (.int .i64 0)))), none⟩])
  (.seq (.seq (.reg [⟨(some 9), (.op (.mv (.t 0))), none⟩, ⟨(some 10), (.op (.mv (.t 1))), none⟩, ⟨(some 11), (.call (.f 46) [(.t 9), (.t 10)]), none⟩, ⟨(some 6), (.op (.mv (.t 11))), none⟩])
  (.seq (.reg [⟨(some 12), (.op (.mv (.t 6))), none⟩, ⟨(some 13), (.op (.bin .neq (.t 12) (.k (.int .i64 0)))), none⟩])
  (.cond (.t 13) (.seq (.reg [⟨(some 14), (.op (.mv (.t 6))), none⟩, ⟨(some 4), (.op (.mv (.k (.int .i64 0)))), none⟩, ⟨(some 5), (.op (.mv (.t 14))), none⟩])
  .ret)
  .skip)))
  (.seq (.seq (.reg [⟨(some 15), (.op (.mv (.t 0))), none⟩, ⟨(some 16), (.op (.mv (.t 1))), none⟩, ⟨(some 17), (.op (.nilchk (.t 15))), none⟩, ⟨(some 18), (.op (.faddr 2 (.t 17))), none⟩, ⟨(some 19), (.op (.iaddrA 4 1 (.t 18) (.t 16))), none⟩, ⟨(some 20), (.op (.load (.t 19))), none⟩, ⟨(some 21), (.op (.eq true .ptr (.t 20) (.k (.pointer none)))), none⟩])
  (.cond (.t 21) (.seq (.reg [⟨(some 4), (.op (.mv (.k (.int .i64 0)))), none⟩, ⟨(some 5), (.op (.mv (.k (.int .i64 8)))), none⟩])
  .ret)
  .skip))
  (.seq (.reg [⟨(some 22), (.op (.mv (.t 0))), none⟩, ⟨(some 23), (.op (.nilchk (.t 22))), none⟩, ⟨(some 24), (.op (.faddr 7 (.t 23))), none⟩, ⟨(some 25), (.op (.load (.t 24))), none⟩, ⟨(some 26), (.op (.lenS (.t 25))), none⟩, ⟨(some 7), (.op (.mv (.t 26))), none⟩])
  (.seq (.seq (.reg [⟨(some 27), (.op (.mv (.t 7))), none⟩, ⟨(some 28), (.op (.bin .geq (.t 27) (.k (.int .i64 64)))), none⟩])
  (.cond (.t 28) (.seq (.reg [⟨(some 4), (.op (.mv (.k (.int .i64 0)))), none⟩, ⟨(some 5), (.op (.mv (.k (.int .i64 4)))), none⟩])
  .ret)
  .skip))
  (.seq (.dreg (.quiet ⟨(some 31), (.op (.mv (.t 7))), none⟩ (.quiet ⟨(some 32), (.op (.mv (.t 0))), none⟩ (.quiet ⟨(some 33), (.op (.nilchk (.t 32))), none⟩ (.quiet ⟨(some 34), (.op (.faddr 0 (.t 33))), none⟩ (.quiet ⟨(some 35), (.op (.load (.t 34))), none⟩ (.loud ⟨(some 29), (.call (.f 47) []), none⟩ [⟨(some 35), (.op (.load (.t 34))), none⟩] (.loud ⟨(some 30), (.call (.f 48) []), none⟩ [⟨(some 35), (.op (.load (.t 34))), none⟩] (.loud ⟨(some 36), (.call (.f 49) [(.t 35)]), none⟩ [] (.quiet ⟨(some 37), (.op (.build [(.pointer none), (.pointer none), (.int .i64 0), (.int .u64 0), (.int .u64 0), (.int .u8 0), (.int .i64 0), (.int .u64 0), (.int .i64 0), (.int .i64 0), (.int .u64 0), (.int .u64 0), (.int .i64 0), (.bool false)] [(0, 1, (.t 29)), (1, 1, (.t 30)), (2, 1, (.t 31)), (3, 1, (.t 36))])), none⟩ (.loud ⟨(some 38), (.op (.box 98 (.t 37))), none⟩ [] (.loud ⟨(some 8), (.op (.mv (.t 38))), none⟩ [] .nil))))))))))))
  (.seq (.reg [⟨(some 39), (.op (.mv (.t 0))), none⟩, ⟨(some 40), (.op (.mv (.t 1))), none⟩, ⟨(some 41), (.op (.mv (.t 8))), none⟩, ⟨(some 42), (.op (.nilchk (.t 39))), none⟩, ⟨(some 43), (.op (.faddr 2 (.t 42))), none⟩, ⟨(some 44), (.op (.iaddrA 4 1 (.t 43) (.t 40))), none⟩, ⟨none, (.op (.store 1 (.t 44) (.t 41))), none⟩])
  (.seq (.dreg (.quiet ⟨(some 45), (.op (.mv (.t 0))), none⟩ (.quiet ⟨(some 46), (.op (.mv (.t 0))), none⟩ (.quiet ⟨(some 47), (.op (.nilchk (.t 46))), none⟩ (.quiet ⟨(some 48), (.op (.faddr 7 (.t 47))), none⟩ (.quiet ⟨(some 49), (.op (.load (.t 48))), none⟩ (.quiet ⟨(some 50), (.op (.mv (.t 7))), none⟩ (.quiet ⟨(some 51), (.op (.mv (.t 8))), none⟩ (.quiet ⟨(some 52), (.op (.nilchk (.t 51))), none⟩ (.quiet ⟨(some 53), (.op (.faddr 3 (.t 52))), none⟩ (.quiet ⟨(some 54), (.op (.load (.t 53))), none⟩ (.quiet ⟨(some 55), (.op (.bin .mul (.k (.int .u64 2)) (.t 54))), none⟩ (.quiet ⟨(some 56), (.op (.bin .add (.t 55) (.k (.int .u64 1)))), none⟩ (.quiet ⟨(some 57), (.op (.build [(.int .i64 0), (.int .u64 0), (.int .u8 0)] [(0, 1, (.t 50)), (1, 1, (.t 56))])), none⟩ (.loud ⟨(some 58), (.op (.bslice 100 [(.int .i64 0), (.int .u64 0), (.int .u8 0)] 1 [(0, 3, (.t 57))])), none⟩ [⟨(some 49), (.op (.load (.t 48))), none⟩] (.loud ⟨(some 59), (.op (.append 100 3 24 (.t 49) (.t 58))), none⟩ [] (.quiet ⟨(some 60), (.op (.nilchk (.t 45))), none⟩ (.quiet ⟨(some 61), (.op (.faddr 7 (.t 60))), none⟩ (.loud ⟨none, (.op (.store 1 (.t 61) (.t 59))), none⟩ [] .nil)))))))))))))))))))
  (.seq (.reg [⟨(some 62), (.op (.mv (.t 0))), none⟩, ⟨(some 63), (.op (.mv (.t 8))), none⟩, ⟨(some 64), (.op (.build [(.int .i64 0), (.int .u64 0)] [])), none⟩, ⟨(some 65), (.call (.f 50) [(.t 62), (.k (.int .u8 1)), (.t 63), (.t 64)]), none⟩])
  (.seq (.reg [⟨(some 66), (.op (.mv (.t 7))), none⟩, ⟨(some 4), (.op (.mv (.t 66))), none⟩, ⟨(some 5), (.op (.mv (.k (.int .i64 0)))), none⟩])
  .ret))))))))))
def a13 : AF := ⟨67, [(.t 4), (.t 5)], .code b13, none⟩
theorem ok13 : AFOk Tryz.prog ext 13 a13 := .of Tryz.func13 (by kernel_rfl) (by kernel_rfl) (by kernel_rfl) (by kernel_rfl)
/-! 14: (*rowlock/tl2.Engine).Ask -/
def b14 : AC :=
  (.seq (.reg [⟨(some 5), (.op (.box 32 (.t 2))), none⟩, ⟨(some 6), (.op (.mv (.k (.int .i64 0)))), none⟩])
  (.seq (.seq (.reg [⟨(some 10), (.op (.mv (.t 0))), none⟩, ⟨(some 11), (.op (.mv (.t 1))), none⟩, ⟨(some 12), (.call (.f 46) [(.t 10), (.t 11)]), none⟩, ⟨(some 7), (.op (.mv (.t 12))), none⟩])
  (.seq (.reg [⟨(some 13), (.op (.mv (.t 7))), none⟩, ⟨(some 14), (.op (.bin .neq (.t 13) (.k (.int .i64 0)))), none⟩])
  (.cond (.t 14) (.seq (.reg [⟨(some 15), (.op (.mv (.t 7))), none⟩, ⟨(some 6), (.op (.mv (.t 15))), none⟩])
  .ret)
  .skip)))
  (.seq (.reg [⟨(some 16), (.op (.mv (.t 0))), none⟩, ⟨(some 17), (.op (.mv (.t 1))), none⟩, ⟨(some 18), (.op (.nilchk (.t 16))), none⟩, ⟨(some 19), (.op (.faddr 2 (.t 18))), none⟩, ⟨(some 20), (.op (.iaddrA 4 1 (.t 19) (.t 17))), none⟩, ⟨(some 21), (.op (.load (.t 20))), none⟩, ⟨(some 8), (.op (.mv (.t 21))), none⟩])
  (.seq (.block 0 (.seq (.reg [⟨(some 23), (.op (.mv (.t 8))), none⟩, ⟨(some 24), (.op (.eq false .ptr (.t 23) (.k (.pointer none)))), none⟩, ⟨(some 22), (.op (.mv (.t 24))), none⟩])
  (.cond (.t 22) (.seq (.reg [⟨(some 6), (.op (.mv (.k (.int .i64 8)))), none⟩])
  .ret)
  (.seq (.reg [⟨(some 26), (.op (.mv (.t 8))), none⟩, ⟨(some 27), (.call (.f 51) [(.t 26)]), none⟩, ⟨(some 28), (.op (.un .not (.t 27))), none⟩, ⟨(some 25), (.op (.mv (.t 28))), none⟩])
  (.cond (.t 25) (.seq (.reg [⟨(some 6), (.op (.mv (.k (.int .i64 7)))), none⟩])
  .ret)
  .skip)))))
  (.seq (.seq (.reg [⟨(some 29), (.op (.mv (.t 0))), none⟩, ⟨(some 30), (.op (.mv (.t 8))), none⟩, ⟨(some 31), (.op (.loadN 3 (.t 5))), none⟩, ⟨(some 32), (.call (.f 52) [(.t 29), (.t 30), (.t 31)]), none⟩, ⟨(some 9), (.op (.mv (.t 32))), none⟩])
  (.seq (.reg [⟨(some 33), (.op (.mv (.t 9))), none⟩, ⟨(some 34), (.op (.bin .neq (.t 33) (.k (.int .i64 0)))), none⟩])
  (.cond (.t 34) (.seq (.reg [⟨(some 35), (.op (.mv (.t 9))), none⟩, ⟨(some 6), (.op (.mv (.t 35))), none⟩])
  .ret)
  .skip)))
  (.seq (.reg [⟨(some 36), (.op (.mv (.t 8))), none⟩, ⟨(some 37), (.op (.mv (.t 8))), none⟩, ⟨(some 38), (.op (.mv (.t 8))), none⟩, ⟨(some 39), (.op (.mv (.t 8))), none⟩, ⟨(some 40), (.op (.loadN 3 (.t 5))), none⟩, ⟨(some 41), (.op (.build [(.int .u64 0), (.int .u64 0), (.int .i64 0)] [])), none⟩, ⟨(some 42), (.op (.nilchk (.t 36))), none⟩, ⟨(some 43), (.op (.faddr 5 (.t 42))), none⟩, ⟨none, (.op (.store 3 (.t 43) (.t 40))), none⟩, ⟨(some 44), (.op (.nilchk (.t 37))), none⟩, ⟨(some 45), (.op (.faddr 8 (.t 44))), none⟩, ⟨none, (.op (.store 1 (.t 45) (.k (.int .i64 0)))), none⟩, ⟨(some 46), (.op (.nilchk (.t 38))), none⟩, ⟨(some 47), (.op (.faddr 9 (.t 46))), none⟩, ⟨none, (.op (.store 1 (.t 47) (.k (.int .i64 0)))), none⟩, ⟨(some 48), (.op (.nilchk (.t 39))), none⟩, ⟨(some 49), (.op (.faddr 10 (.t 48))), none⟩, ⟨none, (.op (.store 3 (.t 49) (.t 41))), none⟩])
  (.seq (.reg [⟨(some 6), (.op (.mv (.k (.int .i64 0)))), none⟩])
  .ret)))))))
def a14 : AF := ⟨50, [(.t 6)], .code b14, none⟩
theorem ok14 : AFOk Tryz.prog ext 14 a14 := .of Tryz.func14 (by kernel_rfl) (by kernel_rfl) (by kernel_rfl) (by kernel_rfl)
/-! 15: (*rowlock/tl2.Engine).Step -/
def b15 : AC :=
  (.seq (.reg [⟨(some 4), (.op (.alloc 41 [(.bool false), (.int .u64 0), (.bool false), (.int .i64 0), (.bool false), (.int .u8 0), (.int .i64 0)])), none⟩])
  (.seq (.seq (.reg [⟨(some 7), (.op (.mv (.t 0))), none⟩, ⟨(some 8), (.op (.mv (.t 1))), none⟩, ⟨(some 9), (.call (.f 46) [(.t 7), (.t 8)]), none⟩, ⟨(some 5), (.op (.mv (.t 9))), none⟩])
  (.seq (.reg [⟨(some 10), (.op (.mv (.t 5))), none⟩, ⟨(some 11), (.op (.bin .neq (.t 10) (.k (.int .i64 0)))), none⟩])
  (.cond (.t 11) (.seq (.reg [⟨(some 12), (.op (.mv (.t 5))), none⟩, ⟨(some 13), (.op (.build [(.bool false), (.int .u64 0), (.bool false), (.int .i64 0), (.bool false), (.int .u8 0), (.int .i64 0)] [(6, 1, (.t 12))])), none⟩, ⟨none, (.op (.store 7 (.t 4) (.t 13))), none⟩])
  .ret)
  .skip)))
  (.seq (.reg [⟨(some 14), (.op (.mv (.t 0))), none⟩, ⟨(some 15), (.op (.mv (.t 1))), none⟩, ⟨(some 16), (.op (.nilchk (.t 14))), none⟩, ⟨(some 17), (.op (.faddr 2 (.t 16))), none⟩, ⟨(some 18), (.op (.iaddrA 4 1 (.t 17) (.t 15))), none⟩, ⟨(some 19), (.op (.load (.t 18))), none⟩, ⟨(some 6), (.op (.mv (.t 19))), none⟩])
  (.seq (.seq (.reg [⟨(some 20), (.op (.mv (.t 6))), none⟩, ⟨(some 21), (.op (.eq false .ptr (.t 20) (.k (.pointer none)))), none⟩, ⟨(some 22), (.op (.mv (.t 21))), none⟩, ⟨(some 23), (.op (.mv (.t 6))), (some (22, false))⟩, ⟨(some 24), (.call (.f 51) [(.t 23)]), (some (22, false))⟩, ⟨(some 25), (.op (.pick (.t 22) (.k (.bool true)) (.t 24))), none⟩])
  (.cond (.t 25) (.seq (.reg [⟨(some 26), (.op (.build [(.bool false), (.int .u64 0), (.bool false), (.int .i64 0), (.bool false), (.int .u8 0), (.int .i64 0)] [(6, 1, (.k (.int .i64 8)))])), none⟩, ⟨none, (.op (.store 7 (.t 4) (.t 26))), none⟩])
  .ret)
  .skip))
  (.seq (.reg [⟨(some 27), (.op (.mv (.t 0))), none⟩, ⟨(some 28), (.op (.mv (.t 6))), none⟩, ⟨(some 29), (.op (.nilchk (.t 28))), none⟩, ⟨(some 30), (.op (.faddr 5 (.t 29))), none⟩, ⟨(some 31), (.op (.faddr 0 (.t 30))), none⟩, ⟨(some 32), (.op (.load (.t 31))), none⟩, ⟨(some 33), (.call (.f 53) [(.t 27), (.t 32)]), none⟩, ⟨(some 34), (.op (.mv (.t 1))), none⟩, ⟨(some 35), (.op (.mv (.t 6))), none⟩, ⟨(some 36), (.call (.t 33) [(.t 34), (.t 35)]), none⟩, ⟨none, (.op (.store 7 (.t 4) (.t 36))), none⟩])
  .ret)))))
def a15 : AF := ⟨37, [(.c 4 true 7)], .code b15, none⟩
theorem ok15 : AFOk Tryz.prog ext 15 a15 := .of Tryz.func15 (by kernel_rfl) (by kernel_rfl) (by kernel_rfl) (by kernel_rfl)
/-! 17: (*rowlock/tl2.Engine).Clock -/
def b17 : AC :=
  (.seq (.reg [⟨(some 2), (.op (.mv (.k (.int .u64 0)))), none⟩])
  (.seq (.seq (.reg [⟨(some 3), (.op (.mv (.t 0))), none⟩, ⟨(some 4), (.op (.eq false .ptr (.t 3) (.k (.pointer none)))), none⟩])
  (.cond (.t 4) (.seq (.reg [⟨(some 2), (.op (.mv (.k (.int .u64 0)))), none⟩])
  .ret)
  .skip))
  (.seq (.reg [⟨(some 5), (.op (.mv (.t 0))), none⟩, ⟨(some 6), (.op (.nilchk (.t 5))), none⟩, ⟨(some 7), (.op (.faddr 0 (.t 6))), none⟩, ⟨(some 8), (.op (.load (.t 7))), none⟩, ⟨(some 9), (.call (.f 49) [(.t 8)]), none⟩, ⟨(some 2), (.op (.mv (.t 9))), none⟩])
  .ret)))
def a17 : AF := ⟨10, [(.t 2)], .code b17, none⟩
theorem ok17 : AFOk Tryz.prog ext 17 a17 := .of Tryz.func17 (by kernel_rfl) (by kernel_rfl) (by kernel_rfl) (by kernel_rfl)
/-! 18: (*rowlock/tl2.Engine).Asked -/
def b18 : AC :=
  (.seq (.reg [⟨(some 4), (.op (.alloc 32 [(.int .u8 0), (.int .i64 0), (.int .u64 0)])), none⟩, ⟨(some 5), (.op (.mv (.k (.bool false)))), none⟩])
  (.seq (.reg [⟨(some 7), (.op (.mv (.t 0))), none⟩, ⟨(some 8), (.op (.mv (.t 1))), none⟩, ⟨(some 9), (.call (.f 54) [(.t 7), (.t 8)]), none⟩, ⟨(some 6), (.op (.mv (.t 9))), none⟩])
  (.seq (.seq (.reg [⟨(some 10), (.op (.mv (.t 6))), none⟩, ⟨(some 11), (.op (.eq false .ptr (.t 10) (.k (.pointer none)))), none⟩, ⟨(some 12), (.op (.mv (.t 11))), none⟩, ⟨(some 13), (.op (.mv (.t 6))), (some (12, false))⟩, ⟨(some 14), (.call (.f 51) [(.t 13)]), (some (12, false))⟩, ⟨(some 15), (.op (.pick (.t 12) (.k (.bool true)) (.t 14))), none⟩])
  (.cond (.t 15) (.seq (.reg [⟨(some 16), (.op (.build [(.int .u8 0), (.int .i64 0), (.int .u64 0)] [])), none⟩, ⟨none, (.op (.store 3 (.t 4) (.t 16))), none⟩, ⟨(some 5), (.op (.mv (.k (.bool false)))), none⟩])
  .ret)
  .skip))
  (.seq (.reg [⟨(some 17), (.op (.mv (.t 6))), none⟩, ⟨(some 18), (.op (.nilchk (.t 17))), none⟩, ⟨(some 19), (.op (.faddr 5 (.t 18))), none⟩, ⟨(some 20), (.op (.loadN 3 (.t 19))), none⟩, ⟨none, (.op (.store 3 (.t 4) (.t 20))), none⟩, ⟨(some 5), (.op (.mv (.k (.bool true)))), none⟩])
  .ret))))
def a18 : AF := ⟨21, [(.c 4 true 3), (.t 5)], .code b18, none⟩
theorem ok18 : AFOk Tryz.prog ext 18 a18 := .of Tryz.func18 (by kernel_rfl) (by kernel_rfl) (by kernel_rfl) (by kernel_rfl)
/-! 19: (*rowlock/tl2.Engine).Writes -/
def b19 : AC :=
  (.seq (.reg [⟨(some 4), (.op (.mv (.k (.slice none 0 0)))), none⟩])
  (.seq (.reg [⟨(some 6), (.op (.mv (.t 0))), none⟩, ⟨(some 7), (.op (.mv (.t 1))), none⟩, ⟨(some 8), (.call (.f 54) [(.t 6), (.t 7)]), none⟩, ⟨(some 5), (.op (.mv (.t 8))), none⟩])
  (.seq (.seq (.reg [⟨(some 9), (.op (.mv (.t 5))), none⟩, ⟨(some 10), (.op (.eq false .ptr (.t 9) (.k (.pointer none)))), none⟩])
  (.cond (.t 10) (.seq (.reg [⟨(some 4), (.op (.mv (.k (.slice none 0 0)))), none⟩])
  .ret)
  .skip))
  (.seq (.reg [⟨(some 11), (.op (.mv (.t 5))), none⟩, ⟨(some 12), (.op (.nilchk (.t 11))), none⟩, ⟨(some 13), (.op (.faddr 1 (.t 12))), none⟩, ⟨(some 14), (.op (.load (.t 13))), none⟩, ⟨(some 15), (.call (.f 55) [(.t 14)]), none⟩, ⟨(some 4), (.op (.mv (.t 15))), none⟩])
  .ret))))
def a19 : AF := ⟨16, [(.t 4)], .code b19, none⟩
theorem ok19 : AFOk Tryz.prog ext 19 a19 := .of Tryz.func19 (by kernel_rfl) (by kernel_rfl) (by kernel_rfl) (by kernel_rfl)
/-! 20: (*rowlock/tl2.Engine).Attempt -/
def b20 : AC :=
  (.seq (.reg [⟨(some 4), (.op (.mv (.k (.int .i64 0)))), none⟩, ⟨(some 5), (.op (.mv (.k (.bool false)))), none⟩])
  (.seq (.reg [⟨(some 7), (.op (.mv (.t 0))), none⟩, ⟨(some 8), (.op (.mv (.t 1))), none⟩, ⟨(some 9), (.call (.f 54) [(.t 7), (.t 8)]), none⟩, ⟨(some 6), (.op (.mv (.t 9))), none⟩])
  (.seq (.seq (.reg [⟨(some 10), (.op (.mv (.t 6))), none⟩, ⟨(some 11), (.op (.eq false .ptr (.t 10) (.k (.pointer none)))), none⟩])
  (.cond (.t 11) (.seq (.reg [⟨(some 4), (.op (.mv (.k (.int .i64 0)))), none⟩, ⟨(some 5), (.op (.mv (.k (.bool false)))), none⟩])
  .ret)
  .skip))
  (.seq (.reg [⟨(some 12), (.op (.mv (.t 6))), none⟩, ⟨(some 13), (.op (.nilchk (.t 12))), none⟩, ⟨(some 14), (.op (.faddr 2 (.t 13))), none⟩, ⟨(some 15), (.op (.load (.t 14))), none⟩, ⟨(some 4), (.op (.mv (.t 15))), none⟩, ⟨(some 5), (.op (.mv (.k (.bool true)))), none⟩])
  .ret))))
def a20 : AF := ⟨16, [(.t 4), (.t 5)], .code b20, none⟩
theorem ok20 : AFOk Tryz.prog ext 20 a20 := .of Tryz.func20 (by kernel_rfl) (by kernel_rfl) (by kernel_rfl) (by kernel_rfl)
/-! 21: (*rowlock/tl2.Engine).Heap -/
def b21 : AC :=
  (.seq (.reg [⟨(some 2), (.op (.mv (.k (.slice none 0 0)))), none⟩])
  (.seq (.seq (.reg [⟨(some 3), (.op (.mv (.t 0))), none⟩, ⟨(some 4), (.op (.eq false .ptr (.t 3) (.k (.pointer none)))), none⟩])
  (.cond (.t 4) (.seq (.reg [⟨(some 2), (.op (.mv (.k (.slice none 0 0)))), none⟩])
  .ret)
  .skip))
  (.seq (.reg [⟨(some 5), (.op (.mv (.t 0))), none⟩, ⟨(some 6), (.op (.nilchk (.t 5))), none⟩, ⟨(some 7), (.op (.faddr 1 (.t 6))), none⟩, ⟨(some 8), (.op (.load (.t 7))), none⟩, ⟨(some 9), (.call (.f 45) [(.t 8)]), none⟩, ⟨(some 2), (.op (.mv (.t 9))), none⟩])
  .ret)))
def a21 : AF := ⟨10, [(.t 2)], .code b21, none⟩
theorem ok21 : AFOk Tryz.prog ext 21 a21 := .of Tryz.func21 (by kernel_rfl) (by kernel_rfl) (by kernel_rfl) (by kernel_rfl)
/-! 22: (*rowlock/tl2.Engine).Kill -/
def b22 : AC :=
  (.seq (.reg [⟨(some 4), (.op (.mv (.k (.int .i64 0)))), none⟩])
  (.seq (.seq (.reg [⟨(some 7), (.op (.mv (.t 0))), none⟩, ⟨(some 8), (.op (.mv (.t 1))), none⟩, ⟨(some 9), (.call (.f 46) [(.t 7), (.t 8)]), none⟩, ⟨(some 5), (.op (.mv (.t 9))), none⟩])
  (.seq (.reg [⟨(some 10), (.op (.mv (.t 5))), none⟩, ⟨(some 11), (.op (.bin .neq (.t 10) (.k (.int .i64 0)))), none⟩])
  (.cond (.t 11) (.seq (.reg [⟨(some 12), (.op (.mv (.t 5))), none⟩, ⟨(some 4), (.op (.mv (.t 12))), none⟩])
  .ret)
  .skip)))
  (.seq (.seq (.reg [⟨(some 13), (.op (.mv (.t 0))), none⟩, ⟨(some 14), (.op (.mv (.t 1))), none⟩, ⟨(some 15), (.op (.nilchk (.t 13))), none⟩, ⟨(some 16), (.op (.faddr 2 (.t 15))), none⟩, ⟨(some 17), (.op (.iaddrA 4 1 (.t 16) (.t 14))), none⟩, ⟨(some 18), (.op (.load (.t 17))), none⟩, ⟨(some 6), (.op (.mv (.t 18))), none⟩])
  (.seq (.reg [⟨(some 19), (.op (.mv (.t 6))), none⟩, ⟨(some 20), (.op (.eq false .ptr (.t 19) (.k (.pointer none)))), none⟩, ⟨(some 21), (.op (.mv (.t 20))), none⟩, ⟨(some 22), (.op (.mv (.t 6))), (some (21, false))⟩, ⟨(some 23), (.op (.nilchk (.t 22))), (some (21, false))⟩, ⟨(some 24), (.op (.faddr 13 (.t 23))), (some (21, false))⟩, ⟨(some 25), (.op (.load (.t 24))), (some (21, false))⟩, ⟨(some 26), (.op (.pick (.t 21) (.k (.bool true)) (.t 25))), none⟩])
  (.cond (.t 26) (.seq (.reg [⟨(some 4), (.op (.mv (.k (.int .i64 8)))), none⟩])
  .ret)
  .skip)))
  (.seq (.reg [⟨(some 27), (.op (.mv (.t 0))), none⟩, ⟨(some 28), (.op (.mv (.t 1))), none⟩, ⟨(some 29), (.call (.f 56) [(.t 27), (.t 28), (.k (.int .u8 3))]), none⟩])
  (.seq (.reg [⟨(some 4), (.op (.mv (.k (.int .i64 0)))), none⟩])
  .ret)))))
def a22 : AF := ⟨30, [(.t 4)], .code b22, none⟩
theorem ok22 : AFOk Tryz.prog ext 22 a22 := .of Tryz.func22 (by kernel_rfl) (by kernel_rfl) (by kernel_rfl) (by kernel_rfl)
/-! 24: (*rowlock/tl2.Engine).Decided -/
def b24 : AC :=
  (.seq (.reg [⟨(some 2), (.op (.mv (.k (.slice none 0 0)))), none⟩])
  (.seq (.seq (.reg [⟨(some 6), (.op (.mv (.t 0))), none⟩, ⟨(some 7), (.op (.eq false .ptr (.t 6) (.k (.pointer none)))), none⟩])
  (.cond (.t 7) (.seq (.reg [⟨(some 2), (.op (.mv (.k (.slice none 0 0)))), none⟩])
  .ret)
  .skip))
  (.seq (.reg [⟨(some 3), (.op (.mv (.k (.slice none 0 0)))), none⟩])
  (.seq (.seq (.reg [⟨(some 8), (.op (.mv (.t 0))), none⟩, ⟨(some 9), (.op (.nilchk (.t 8))), none⟩, ⟨(some 10), (.op (.faddr 2 (.t 9))), none⟩, ⟨(some 11), (.op (.loadN 4 (.t 10))), none⟩, ⟨(some 12), (.op (.mv (.k (.int .i64 0)))), none⟩])
  (.block 0 (.loop (.seq (.reg [⟨(some 13), (.op (.bin .lss (.t 12) (.k (.int .i64 4)))), none⟩])
   (.seq (.cond (.t 13) .skip
   (.exit 0))
   (.seq (.block 1 (.seq (.reg [⟨(some 14), (.op (.indexA 4 1 false (.t 11) (.t 12))), none⟩, ⟨(some 5), (.op (.mv (.t 14))), none⟩])
   (.seq (.reg [⟨(some 15), (.op (.mv (.t 5))), none⟩, ⟨(some 16), (.op (.eq true .ptr (.t 15) (.k (.pointer none)))), none⟩, ⟨(some 17), (.op (.mv (.t 16))), none⟩, ⟨(some 18), (.op (.mv (.t 5))), (some (17, true))⟩, ⟨(some 19), (.op (.nilchk (.t 18))), (some (17, true))⟩, ⟨(some 20), (.op (.faddr 13 (.t 19))), (some (17, true))⟩, ⟨(some 21), (.op (.load (.t 20))), (some (17, true))⟩, ⟨(some 22), (.op (.pick (.t 17) (.t 21) (.k (.bool false)))), none⟩])
   (.cond (.t 22) (.reg [⟨(some 23), (.op (.mv (.t 3))), none⟩, ⟨(some 24), (.op (.mv (.t 5))), none⟩, ⟨(some 25), (.op (.nilchk (.t 24))), none⟩, ⟨(some 26), (.op (.faddr 2 (.t 25))), none⟩, ⟨(some 27), (.op (.load (.t 26))), none⟩, ⟨(some 28), (.op (.bslice 3 [(.int .i64 0)] 1 [(0, 1, (.t 27))])), none⟩, ⟨(some 29), (.op (.append 3 1 8 (.t 23) (.t 28))), none⟩, ⟨(some 3), (.op (.mv (.t 29))), none⟩])
   .skip))))
   (.reg [⟨(some 30), (.op (.bin .add (.t 12) (.k (.int .i64 1)))), none⟩, ⟨(some 12), (.op (.mv (.t 30))), none⟩])))))))
  (.seq (.reg [⟨(some 31), (.op (.mv (.t 3))), none⟩, ⟨(some 32), (.call (.f 57) [(.t 31)]), none⟩])
  (.seq (.reg [⟨(some 33), (.op (.mv (.t 3))), none⟩, ⟨(some 2), (.op (.mv (.t 33))), none⟩])
  .ret))))))
def a24 : AF := ⟨34, [(.t 2)], .code b24, none⟩
theorem ok24 : AFOk Tryz.prog ext 24 a24 := .of Tryz.func24 (by kernel_rfl) (by kernel_rfl) (by kernel_rfl) (by kernel_rfl)
/-! 25: (*rowlock/tl2.Engine).Holds -/
def b25 : AC :=
  (.seq (.reg [⟨(some 4), (.op (.mv (.k (.bool false)))), none⟩])
  (.seq (.reg [⟨(some 5), (.op (.mv (.t 0))), none⟩, ⟨(some 6), (.op (.eq true .ptr (.t 5) (.k (.pointer none)))), none⟩, ⟨(some 7), (.op (.mv (.t 6))), none⟩, ⟨(some 8), (.op (.mv (.t 0))), (some (7, true))⟩, ⟨(some 9), (.op (.nilchk (.t 8))), (some (7, true))⟩, ⟨(some 10), (.op (.faddr 0 (.t 9))), (some (7, true))⟩, ⟨(some 11), (.op (.load (.t 10))), (some (7, true))⟩, ⟨(some 12), (.op (.mv (.t 1))), (some (7, true))⟩, ⟨(some 13), (.call (.f 58) [(.t 11), (.t 12)]), (some (7, true))⟩, ⟨(some 14), (.op (.lenS (.t 13))), (some (7, true))⟩, ⟨(some 15), (.op (.bin .gtr (.t 14) (.k (.int .i64 0)))), (some (7, true))⟩, ⟨(some 16), (.op (.pick (.t 7) (.t 15) (.k (.bool false)))), none⟩, ⟨(some 4), (.op (.mv (.t 16))), none⟩])
  .ret))
def a25 : AF := ⟨17, [(.t 4)], .code b25, none⟩
theorem ok25 : AFOk Tryz.prog ext 25 a25 := .of Tryz.func25 (by kernel_rfl) (by kernel_rfl) (by kernel_rfl) (by kernel_rfl)
/-! 27: (*rowlock/tl2.Engine).Why -/
def b27 : AC :=
  (.seq (.reg [⟨(some 4), (.op (.mv (.k (.int .u8 0)))), none⟩])
  (.seq (.seq (.reg [⟨(some 5), (.op (.mv (.t 0))), none⟩, ⟨(some 6), (.op (.eq false .ptr (.t 5) (.k (.pointer none)))), none⟩, ⟨(some 7), (.op (.mv (.t 6))), none⟩, ⟨(some 8), (.op (.mv (.t 1))), (some (7, false))⟩, ⟨(some 9), (.op (.bin .lss (.t 8) (.k (.int .i64 0)))), (some (7, false))⟩, ⟨(some 10), (.op (.pick (.t 7) (.k (.bool true)) (.t 9))), none⟩, ⟨(some 11), (.op (.mv (.t 10))), none⟩, ⟨(some 12), (.op (.mv (.t 1))), (some (11, false))⟩, ⟨(some 13), (.op (.mv (.t 0))), (some (11, false))⟩, ⟨(some 14), (.op (.nilchk (.t 13))), (some (11, false))⟩, ⟨(some 15), (.op (.faddr 7 (.t 14))), (some (11, false))⟩, ⟨(some 16), (.op (.load (.t 15))), (some (11, false))⟩, ⟨(some 17), (.op (.lenS (.t 16))), (some (11, false))⟩, ⟨(some 18), (.op (.bin .geq (.t 12) (.t 17))), (some (11, false))⟩, ⟨(some 19), (.op (.pick (.t 11) (.k (.bool true)) (.t 18))), none⟩])
  (.cond (.t 19) (.seq (.reg [⟨(some 4), (.op (.mv (.k (.int .u8 0)))), none⟩])
  .ret)
  .skip))
  (.seq (.reg [⟨(some 20), (.op (.mv (.t 0))), none⟩, ⟨(some 21), (.op (.nilchk (.t 20))), none⟩, ⟨(some 22), (.op (.faddr 7 (.t 21))), none⟩, ⟨(some 23), (.op (.load (.t 22))), none⟩, ⟨(some 24), (.op (.mv (.t 1))), none⟩, ⟨(some 25), (.op (.iaddrS 3 (.t 23) (.t 24))), none⟩, ⟨(some 26), (.op (.faddr 2 (.t 25))), none⟩, ⟨(some 27), (.op (.load (.t 26))), none⟩, ⟨(some 4), (.op (.mv (.t 27))), none⟩])
  .ret)))
def a27 : AF := ⟨28, [(.t 4)], .code b27, none⟩
theorem ok27 : AFOk Tryz.prog ext 27 a27 := .of Tryz.func27 (by kernel_rfl) (by kernel_rfl) (by kernel_rfl) (by kernel_rfl)
/-! 29: (*rowlock/tl2.Engine).Events -/
def b29 : AC :=
  (.seq (.reg [⟨(some 2), (.op (.mv (.k (.slice none 0 0)))), none⟩])
  (.seq (.seq (.reg [⟨(some 3), (.op (.mv (.t 0))), none⟩, ⟨(some 4), (.op (.eq false .ptr (.t 3) (.k (.pointer none)))), none⟩])
  (.cond (.t 4) (.seq (.reg [⟨(some 2), (.op (.mv (.k (.slice none 0 0)))), none⟩])
  .ret)
  .skip))
  (.seq (.reg [⟨(some 5), (.op (.mv (.t 0))), none⟩, ⟨(some 6), (.op (.nilchk (.t 5))), none⟩, ⟨(some 7), (.op (.faddr 6 (.t 6))), none⟩, ⟨(some 8), (.op (.load (.t 7))), none⟩, ⟨(some 9), (.call (.f 64) [(.t 8)]), none⟩, ⟨(some 2), (.op (.mv (.t 9))), none⟩])
  .ret)))
def a29 : AF := ⟨10, [(.t 2)], .code b29, none⟩
theorem ok29 : AFOk Tryz.prog ext 29 a29 := .of Tryz.func29 (by kernel_rfl) (by kernel_rfl) (by kernel_rfl) (by kernel_rfl)
/-! 30: (*rowlock/tl2.Engine).Order -/
def b30 : AC :=
  (.seq (.reg [⟨(some 2), (.op (.mv (.k (.slice none 0 0)))), none⟩])
  (.seq (.seq (.reg [⟨(some 6), (.op (.mv (.t 0))), none⟩, ⟨(some 7), (.op (.eq false .ptr (.t 6) (.k (.pointer none)))), none⟩])
  (.cond (.t 7) (.seq (.reg [⟨(some 2), (.op (.mv (.k (.slice none 0 0)))), none⟩])
  .ret)
  .skip))
  (.seq (.reg [⟨(some 3), (.op (.mv (.k (.slice none 0 0)))), none⟩])
  (.seq (.seq (.reg [⟨(some 8), (.op (.mv (.t 0))), none⟩, ⟨(some 9), (.op (.nilchk (.t 8))), none⟩, ⟨(some 10), (.op (.faddr 7 (.t 9))), none⟩, ⟨(some 11), (.op (.load (.t 10))), none⟩, ⟨(some 12), (.call (.f 66) [(.t 11)]), none⟩, ⟨(some 13), (.call (.f 65) [(.t 12), (.f 67)]), none⟩, ⟨(some 14), (.op (.lenS (.t 13))), none⟩, ⟨(some 15), (.op (.mv (.k (.int .i64 0)))), none⟩])
  (.block 0 (.loop (.seq (.reg [⟨(some 16), (.op (.bin .lss (.t 15) (.t 14))), none⟩])
   (.seq (.cond (.t 16) .skip
   (.exit 0))
   (.seq (.block 1 (.seq (.reg [⟨(some 17), (.op (.iaddrS 3 (.t 13) (.t 15))), none⟩, ⟨(some 18), (.op (.loadN 3 (.t 17))), none⟩, ⟨(some 5), (.op (.alloc 100 [(.int .i64 0), (.int .u64 0), (.int .u8 0)])), none⟩, ⟨none, (.op (.store 3 (.t 5) (.t 18))), none⟩])
   (.reg [⟨(some 19), (.op (.mv (.t 3))), none⟩, ⟨(some 20), (.op (.faddr 0 (.t 5))), none⟩, ⟨(some 21), (.op (.load (.t 20))), none⟩, ⟨(some 22), (.op (.bslice 3 [(.int .i64 0)] 1 [(0, 1, (.t 21))])), none⟩, ⟨(some 23), (.op (.append 3 1 8 (.t 19) (.t 22))), none⟩, ⟨(some 3), (.op (.mv (.t 23))), none⟩])))
   (.reg [⟨(some 24), (.op (.bin .add (.t 15) (.k (.int .i64 1)))), none⟩, ⟨(some 15), (.op (.mv (.t 24))), none⟩])))))))
  (.seq (.reg [⟨(some 25), (.op (.mv (.t 3))), none⟩, ⟨(some 2), (.op (.mv (.t 25))), none⟩])
  .ret)))))
def a30 : AF := ⟨26, [(.t 2)], .code b30, none⟩
theorem ok30 : AFOk Tryz.prog ext 30 a30 := .of Tryz.func30 (by kernel_rfl) (by kernel_rfl) (by kernel_rfl) (by kernel_rfl)
/-! 33: (*rowlock/tl2.Engine).Fork -/
def b33 : AC :=
  (.seq (.reg [⟨(some 2), (.op (.mv (.k (.pointer none)))), none⟩])
  (.seq (.seq (.reg [⟨(some 7), (.op (.mv (.t 0))), none⟩, ⟨(some 8), (.op (.eq false .ptr (.t 7) (.k (.pointer none)))), none⟩])
  (.cond (.t 8) (.seq (.reg [⟨(some 2), (.op (.mv (.k (.pointer none)))), none⟩])
  .ret)
  .skip))
  (.seq (.dreg (.quiet ⟨(some 9), (.op (.mv (.t 0))), none⟩ (.quiet ⟨(some 10), (.op (.nilchk (.t 9))), none⟩ (.quiet ⟨(some 11), (.op (.faddr 0 (.t 10))), none⟩ (.quiet ⟨(some 12), (.op (.load (.t 11))), none⟩ (.quiet ⟨(some 14), (.op (.mv (.t 0))), none⟩ (.quiet ⟨(some 15), (.op (.nilchk (.t 14))), none⟩ (.quiet ⟨(some 16), (.op (.faddr 1 (.t 15))), none⟩ (.quiet ⟨(some 17), (.op (.load (.t 16))), none⟩ (.quiet ⟨(some 19), (.op (.mv (.t 0))), none⟩ (.quiet ⟨(some 20), (.op (.nilchk (.t 19))), none⟩ (.quiet ⟨(some 21), (.op (.faddr 6 (.t 20))), none⟩ (.quiet ⟨(some 22), (.op (.load (.t 21))), none⟩ (.quiet ⟨(some 24), (.op (.mv (.t 0))), none⟩ (.quiet ⟨(some 25), (.op (.nilchk (.t 24))), none⟩ (.quiet ⟨(some 26), (.op (.faddr 7 (.t 25))), none⟩ (.quiet ⟨(some 27), (.op (.load (.t 26))), none⟩ (.loud ⟨(some 13), (.call (.f 70) [(.t 12)]), none⟩ [⟨(some 27), (.op (.load (.t 26))), none⟩, ⟨(some 22), (.op (.load (.t 21))), none⟩, ⟨(some 17), (.op (.load (.t 16))), none⟩] (.loud ⟨(some 18), (.call (.f 45) [(.t 17)]), none⟩ [⟨(some 27), (.op (.load (.t 26))), none⟩, ⟨(some 22), (.op (.load (.t 21))), none⟩] (.loud ⟨(some 23), (.call (.f 64) [(.t 22)]), none⟩ [⟨(some 27), (.op (.load (.t 26))), none⟩] (.loud ⟨(some 28), (.call (.f 71) [(.t 27)]), none⟩ [] (.quiet ⟨(some 29), (.op (.build [(.pointer none), (.slice none 0 0), (.pointer none), (.pointer none), (.pointer none), (.pointer none), (.slice none 0 0), (.slice none 0 0)] [(0, 1, (.t 13)), (1, 1, (.t 18)), (6, 1, (.t 23)), (7, 1, (.t 28))])), none⟩ (.loud ⟨(some 30), (.op (.box 89 (.t 29))), none⟩ [] (.loud ⟨(some 3), (.op (.mv (.t 30))), none⟩ [] .nil))))))))))))))))))))))))
  (.seq (.seq (.reg [⟨(some 31), (.op (.mv (.t 0))), none⟩, ⟨(some 32), (.op (.nilchk (.t 31))), none⟩, ⟨(some 33), (.op (.faddr 2 (.t 32))), none⟩, ⟨(some 34), (.op (.loadN 4 (.t 33))), none⟩, ⟨(some 35), (.op (.mv (.k (.int .i64 0)))), none⟩])
  (.block 0 (.loop (.seq (.reg [⟨(some 36), (.op (.bin .lss (.t 35) (.k (.int .i64 4)))), none⟩])
   (.seq (.cond (.t 36) .skip
   (.exit 0))
   (.seq (.block 1 (.seq (.reg [⟨(some 37), (.op (.mv (.t 35))), none⟩, ⟨(some 38), (.op (.indexA 4 1 false (.t 34) (.t 35))), none⟩, ⟨(some 4), (.op (.mv (.t 37))), none⟩, ⟨(some 5), (.op (.mv (.t 38))), none⟩])
   (.seq (.reg [⟨(some 39), (.op (.mv (.t 5))), none⟩, ⟨(some 40), (.op (.eq true .ptr (.t 39) (.k (.pointer none)))), none⟩])
   (.cond (.t 40) (.seq (.reg [⟨(some 41), (.op (.mv (.t 5))), none⟩, ⟨(some 42), (.op (.nilchk (.t 41))), none⟩, ⟨(some 43), (.op (.loadN 14 (.t 42))), none⟩, ⟨(some 6), (.op (.alloc 98 [(.pointer none), (.pointer none), (.int .i64 0), (.int .u64 0), (.int .u64 0), (.int .u8 0), (.int .i64 0), (.int .u64 0), (.int .i64 0), (.int .i64 0), (.int .u64 0), (.int .u64 0), (.int .i64 0), (.bool false)])), none⟩, ⟨none, (.op (.store 14 (.t 6) (.t 43))), none⟩])
   (.seq (.dreg (.quiet ⟨(some 44), (.op (.mv (.t 5))), none⟩ (.quiet ⟨(some 45), (.op (.nilchk (.t 44))), none⟩ (.quiet ⟨(some 46), (.op (.faddr 0 (.t 45))), none⟩ (.quiet ⟨(some 47), (.op (.load (.t 46))), none⟩ (.quiet ⟨(some 49), (.op (.mv (.t 5))), none⟩ (.quiet ⟨(some 50), (.op (.nilchk (.t 49))), none⟩ (.quiet ⟨(some 51), (.op (.faddr 1 (.t 50))), none⟩ (.quiet ⟨(some 52), (.op (.load (.t 51))), none⟩ (.loud ⟨(some 48), (.call (.f 72) [(.t 47)]), none⟩ [⟨(some 52), (.op (.load (.t 51))), none⟩] (.loud ⟨(some 53), (.call (.f 73) [(.t 52)]), none⟩ [] (.quiet ⟨(some 54), (.op (.faddr 0 (.t 6))), none⟩ (.loud ⟨none, (.op (.store 1 (.t 54) (.t 48))), none⟩ [] (.quiet ⟨(some 55), (.op (.faddr 1 (.t 6))), none⟩ (.loud ⟨none, (.op (.store 1 (.t 55) (.t 53))), none⟩ [] .nil)))))))))))))))
   (.reg [⟨(some 56), (.op (.mv (.t 3))), none⟩, ⟨(some 57), (.op (.mv (.t 4))), none⟩, ⟨(some 58), (.op (.nilchk (.t 56))), none⟩, ⟨(some 59), (.op (.faddr 2 (.t 58))), none⟩, ⟨(some 60), (.op (.iaddrA 4 1 (.t 59) (.t 57))), none⟩, ⟨none, (.op (.store 1 (.t 60) (.t 6))), none⟩])))
   .skip))))
   (.reg [⟨(some 61), (.op (.bin .add (.t 35) (.k (.int .i64 1)))), none⟩, ⟨(some 35), (.op (.mv (.t 61))), none⟩])))))))
  (.seq (.reg [⟨(some 62), (.op (.mv (.t 3))), none⟩, ⟨(some 2), (.op (.mv (.t 62))), none⟩])
  .ret)))))
def a33 : AF := ⟨63, [(.t 2)], .code b33, none⟩
theorem ok33 : AFOk Tryz.prog ext 33 a33 := .of Tryz.func33 (by kernel_rfl) (by kernel_rfl) (by kernel_rfl) (by kernel_rfl)
/-! 37: rowlock/rowlockref10.Heaped -/
def b37 : AC :=
  (.seq (.reg [⟨(some 2), (.op (.mv (.k (.bool false)))), none⟩])
  (.seq (.seq (.reg [⟨(some 4), (.op (.mv (.t 0))), none⟩, ⟨(some 5), (.op (.lenS (.t 4))), none⟩, ⟨(some 6), (.op (.bin .lss (.t 5) (.k (.int .i64 1)))), none⟩, ⟨(some 7), (.op (.mv (.t 6))), none⟩, ⟨(some 8), (.op (.mv (.t 0))), (some (7, false))⟩, ⟨(some 9), (.op (.lenS (.t 8))), (some (7, false))⟩, ⟨(some 10), (.op (.bin .gtr (.t 9) (.k (.int .i64 12)))), (some (7, false))⟩, ⟨(some 11), (.op (.pick (.t 7) (.k (.bool true)) (.t 10))), none⟩])
  (.cond (.t 11) (.seq (.reg [⟨(some 2), (.op (.mv (.k (.bool false)))), none⟩])
  .ret)
  .skip))
  (.seq (.seq (.reg [⟨(some 3), (.op (.mv (.k (.int .i64 0)))), none⟩])
  (.block 0 (.loop (.seq (.seq (.reg [⟨(some 12), (.op (.mv (.t 3))), none⟩, ⟨(some 13), (.op (.mv (.t 0))), none⟩, ⟨(some 14), (.op (.lenS (.t 13))), none⟩, ⟨(some 15), (.op (.bin .lss (.t 12) (.t 14))), none⟩])
   (.cond (.t 15) .skip
   (.exit 0)))
   (.seq (.block 1 (.seq (.reg [⟨(some 18), (.op (.mv (.t 0))), none⟩, ⟨(some 19), (.op (.mv (.t 3))), none⟩, ⟨(some 20), (.op (.iaddrS 1 (.t 18) (.t 19))), none⟩, ⟨(some 21), (.op (.load (.t 20))), none⟩, ⟨(some 22), (.call (.f 97) [(.t 21)]), none⟩, ⟨(some 23), (.op (.un .not (.t 22))), none⟩])
   (.cond (.t 23) (.seq (.reg [⟨(some 2), (.op (.mv (.k (.bool false)))), none⟩])
   .ret)
   .skip)))
   (.reg [⟨(some 16), (.op (.mv (.t 3))), none⟩, ⟨(some 17), (.op (.bin .add (.t 16) (.k (.int .i64 1)))), none⟩, ⟨(some 3), (.op (.mv (.t 17))), none⟩]))))))
  (.seq (.reg [⟨(some 2), (.op (.mv (.k (.bool true)))), none⟩])
  .ret))))
def a37 : AF := ⟨24, [(.t 2)], .code b37, none⟩
theorem ok37 : AFOk Tryz.prog ext 37 a37 := .of Tryz.func37 (by kernel_rfl) (by kernel_rfl) (by kernel_rfl) (by kernel_rfl)
/-! 38: rowlock/rowlockref04.New -/
def b38 : AC :=
  (.seq (.reg [⟨(some 2), (.op (.mv (.k (.pointer none)))), none⟩])
  (.seq (.seq (.reg [⟨(some 3), (.op (.mv (.t 0))), none⟩, ⟨(some 4), (.op (.bin .lss (.t 3) (.k (.int .i64 1)))), none⟩, ⟨(some 5), (.op (.mv (.t 4))), none⟩, ⟨(some 6), (.op (.mv (.t 0))), (some (5, false))⟩, ⟨(some 7), (.op (.bin .gtr (.t 6) (.k (.int .i64 8)))), (some (5, false))⟩, ⟨(some 8), (.op (.pick (.t 5) (.k (.bool true)) (.t 7))), none⟩])
  (.cond (.t 8) (.seq (.reg [⟨(some 2), (.op (.mv (.k (.pointer none)))), none⟩])
  .ret)
  .skip))
  (.seq (.reg [⟨(some 9), (.op (.mv (.t 0))), none⟩, ⟨(some 10), (.op (.mkslice 29 [(.int .u64 0)] 8 (.t 9) (.t 9))), none⟩, ⟨(some 11), (.op (.build [(.slice none 0 0), (.int .u64 0)] [(0, 1, (.t 10))])), none⟩, ⟨(some 12), (.op (.box 149 (.t 11))), none⟩, ⟨(some 2), (.op (.mv (.t 12))), none⟩])
  .ret)))
def a38 : AF := ⟨13, [(.t 2)], .code b38, none⟩
theorem ok38 : AFOk Tryz.prog ext 38 a38 := .of Tryz.func38 (by kernel_rfl) (by kernel_rfl) (by kernel_rfl) (by kernel_rfl)
/-! 39: (*rowlock/tl2.Engine).Reads -/
def b39 : AC :=
  (.seq (.reg [⟨(some 4), (.op (.mv (.k (.slice none 0 0)))), none⟩])
  (.seq (.reg [⟨(some 6), (.op (.mv (.t 0))), none⟩, ⟨(some 7), (.op (.mv (.t 1))), none⟩, ⟨(some 8), (.call (.f 54) [(.t 6), (.t 7)]), none⟩, ⟨(some 5), (.op (.mv (.t 8))), none⟩])
  (.seq (.seq (.reg [⟨(some 9), (.op (.mv (.t 5))), none⟩, ⟨(some 10), (.op (.eq false .ptr (.t 9) (.k (.pointer none)))), none⟩])
  (.cond (.t 10) (.seq (.reg [⟨(some 4), (.op (.mv (.k (.slice none 0 0)))), none⟩])
  .ret)
  .skip))
  (.seq (.reg [⟨(some 11), (.op (.mv (.t 5))), none⟩, ⟨(some 12), (.op (.nilchk (.t 11))), none⟩, ⟨(some 13), (.op (.faddr 0 (.t 12))), none⟩, ⟨(some 14), (.op (.load (.t 13))), none⟩, ⟨(some 15), (.call (.f 98) [(.t 14)]), none⟩, ⟨(some 4), (.op (.mv (.t 15))), none⟩])
  .ret))))
def a39 : AF := ⟨16, [(.t 4)], .code b39, none⟩
theorem ok39 : AFOk Tryz.prog ext 39 a39 := .of Tryz.func39 (by kernel_rfl) (by kernel_rfl) (by kernel_rfl) (by kernel_rfl)
/-! 40: (*rowlock/tl2.Engine).Valid -/
def b40 : AC :=
  (.seq (.reg [⟨(some 2), (.op (.box 23 (.t 0))), none⟩, ⟨(some 3), (.op (.box 3 (.t 1))), none⟩, ⟨(some 4), (.op (.mv (.k (.bool false)))), none⟩])
  (.seq (.reg [⟨(some 6), (.op (.load (.t 2))), none⟩, ⟨(some 7), (.op (.load (.t 3))), none⟩, ⟨(some 8), (.call (.f 54) [(.t 6), (.t 7)]), none⟩, ⟨(some 5), (.op (.alloc 85 [(.pointer none)])), none⟩, ⟨none, (.op (.store 1 (.t 5) (.t 8))), none⟩])
  (.seq (.seq (.reg [⟨(some 9), (.op (.load (.t 5))), none⟩, ⟨(some 10), (.op (.eq false .ptr (.t 9) (.k (.pointer none)))), none⟩])
  (.cond (.t 10) (.seq (.reg [⟨(some 4), (.op (.mv (.k (.bool false)))), none⟩])
  .ret)
  .skip))
  (.seq (.reg [⟨(some 11), (.op (.load (.t 5))), none⟩, ⟨(some 12), (.op (.nilchk (.t 11))), none⟩, ⟨(some 13), (.op (.faddr 0 (.t 12))), none⟩, ⟨(some 14), (.op (.load (.t 13))), none⟩, ⟨(some 15), (.call (.f 100) [(.t 14)]), none⟩, ⟨(some 16), (.op (.mkfunc 101 [] [(.t 2), (.t 3), (.t 5)])), none⟩, ⟨(some 17), (.call (.f 99) [(.t 15), (.t 16)]), none⟩, ⟨(some 18), (.op (.un .not (.t 17))), none⟩, ⟨(some 4), (.op (.mv (.t 18))), none⟩])
  .ret))))
def a40 : AF := ⟨19, [(.t 4)], .code b40, none⟩
theorem ok40 : AFOk Tryz.prog ext 40 a40 := .of Tryz.func40 (by kernel_rfl) (by kernel_rfl) (by kernel_rfl) (by kernel_rfl)
/-! 41: rowlock/stripes.New -/
def b41 : AC :=
  (.seq (.reg [⟨(some 2), (.op (.mv (.k (.pointer none)))), none⟩])
  (.seq (.seq (.reg [⟨(some 3), (.op (.mv (.t 0))), none⟩, ⟨(some 4), (.op (.bin .lss (.t 3) (.k (.int .i64 1)))), none⟩, ⟨(some 5), (.op (.mv (.t 4))), none⟩, ⟨(some 6), (.op (.mv (.t 0))), (some (5, false))⟩, ⟨(some 7), (.op (.bin .gtr (.t 6) (.k (.int .i64 8)))), (some (5, false))⟩, ⟨(some 8), (.op (.pick (.t 5) (.k (.bool true)) (.t 7))), none⟩])
  (.cond (.t 8) (.seq (.reg [⟨(some 2), (.op (.mv (.k (.pointer none)))), none⟩])
  .ret)
  .skip))
  (.seq (.reg [⟨(some 9), (.op (.mv (.t 0))), none⟩, ⟨(some 10), (.op (.mkslice 29 [(.int .u64 0)] 8 (.t 9) (.t 9))), none⟩, ⟨(some 11), (.op (.build [(.int .u64 0), (.slice none 0 0)] [(1, 1, (.t 10))])), none⟩, ⟨(some 12), (.op (.box 159 (.t 11))), none⟩, ⟨(some 2), (.op (.mv (.t 12))), none⟩])
  .ret)))
def a41 : AF := ⟨13, [(.t 2)], .code b41, none⟩
theorem ok41 : AFOk Tryz.prog ext 41 a41 := .of Tryz.func41 (by kernel_rfl) (by kernel_rfl) (by kernel_rfl) (by kernel_rfl)
/-! 42: rowlock/tl2.New$1 -/
def b42 : AC :=
  (.seq (.reg [⟨(some 2), (.op (.mv (.k (.bool false)))), none⟩])
  (.seq (.reg [⟨(some 3), (.op (.mv (.t 0))), none⟩, ⟨(some 4), (.call (.f 43) [(.t 3)]), none⟩, ⟨(some 5), (.op (.un .not (.t 4))), none⟩, ⟨(some 2), (.op (.mv (.t 5))), none⟩])
  .ret))
def a42 : AF := ⟨6, [(.t 2)], .code b42, none⟩
theorem ok42 : AFOk Tryz.prog ext 42 a42 := .of Tryz.func42 (by kernel_rfl) (by kernel_rfl) (by kernel_rfl) (by kernel_rfl)
/-! 43: rowlock/value.Right -/
def b43 : AC :=
  (.seq (.reg [⟨(some 2), (.op (.mv (.k (.bool false)))), none⟩])
  (.seq (.reg [⟨(some 3), (.op (.mv (.t 0))), none⟩, ⟨(some 4), (.op (.bin .andNot (.t 3) (.k (.int .u64 9223372036854775808)))), none⟩, ⟨(some 5), (.op (.bin .leq (.t 4) (.k (.int .u64 9218868437227405312)))), none⟩, ⟨(some 6), (.op (.mv (.t 5))), none⟩, ⟨(some 7), (.op (.mv (.t 0))), (some (6, false))⟩, ⟨(some 8), (.op (.bin .eql (.t 7) (.k (.int .u64 9221120237041090560)))), (some (6, false))⟩, ⟨(some 9), (.op (.pick (.t 6) (.k (.bool true)) (.t 8))), none⟩, ⟨(some 2), (.op (.mv (.t 9))), none⟩])
  .ret))
def a43 : AF := ⟨10, [(.t 2)], .code b43, none⟩
theorem ok43 : AFOk Tryz.prog ext 43 a43 := .of Tryz.func43 (by kernel_rfl) (by kernel_rfl) (by kernel_rfl) (by kernel_rfl)
/-! 44: slices.ContainsFunc[[]rowlock/api.Val,rowlock/api.Val] -/
def b44 : AC :=
  (.seq (.reg [⟨(some 4), (.op (.mv (.k (.bool false)))), none⟩])
  (.seq (.reg [⟨(some 5), (.op (.mv (.t 0))), none⟩, ⟨(some 6), (.op (.mv (.t 1))), none⟩, ⟨(some 7), (.call (.f 105) [(.t 5), (.t 6)]), none⟩, ⟨(some 8), (.op (.bin .geq (.t 7) (.k (.int .i64 0)))), none⟩, ⟨(some 4), (.op (.mv (.t 8))), none⟩])
  .ret))
def a44 : AF := ⟨9, [(.t 4)], .code b44, none⟩
theorem ok44 : AFOk Tryz.prog ext 44 a44 := .of Tryz.func44 (by kernel_rfl) (by kernel_rfl) (by kernel_rfl) (by kernel_rfl)
/-! 45: slices.Clone[[]rowlock/api.Val,rowlock/api.Val] -/
def b45 : AC :=
  (.seq (.reg [⟨(some 2), (.op (.mv (.k (.slice none 0 0)))), none⟩])
  (.seq (.seq (.reg [⟨(some 3), (.op (.mv (.t 0))), none⟩, ⟨(some 4), (.isnil false (.t 3)), none⟩])
  (.cond (.t 4) (.seq (.reg [⟨(some 2), (.op (.mv (.k (.slice none 0 0)))), none⟩])
  .ret)
  .skip))
  (.seq (.reg [⟨(some 5), (.op (.bslice 30 [] 0 [])), none⟩, ⟨(some 6), (.op (.mv (.t 0))), none⟩, ⟨(some 7), (.op (.append 30 1 8 (.t 5) (.t 6))), none⟩, ⟨(some 2), (.op (.mv (.t 7))), none⟩])
  .ret)))
def a45 : AF := ⟨8, [(.t 2)], .code b45, none⟩
theorem ok45 : AFOk Tryz.prog ext 45 a45 := .of Tryz.func45 (by kernel_rfl) (by kernel_rfl) (by kernel_rfl) (by kernel_rfl)
/-! 46: (*rowlock/tl2.Engine).may -/
def b46 : AC :=
  (.seq (.reg [⟨(some 4), (.op (.mv (.k (.int .i64 0)))), none⟩])
  (.seq (.block 0 (.seq (.reg [⟨(some 6), (.op (.mv (.t 0))), none⟩, ⟨(some 7), (.op (.eq false .ptr (.t 6) (.k (.pointer none)))), none⟩, ⟨(some 5), (.op (.mv (.t 7))), none⟩])
  (.cond (.t 5) (.seq (.reg [⟨(some 4), (.op (.mv (.k (.int .i64 1)))), none⟩])
  .ret)
  (.seq (.reg [⟨(some 9), (.op (.mv (.t 1))), none⟩, ⟨(some 10), (.op (.bin .lss (.t 9) (.k (.int .i64 0)))), none⟩, ⟨(some 11), (.op (.mv (.t 10))), none⟩, ⟨(some 12), (.op (.mv (.t 1))), (some (11, false))⟩, ⟨(some 13), (.op (.bin .geq (.t 12) (.k (.int .i64 4)))), (some (11, false))⟩, ⟨(some 14), (.op (.pick (.t 11) (.k (.bool true)) (.t 13))), none⟩, ⟨(some 8), (.op (.mv (.t 14))), none⟩])
  (.cond (.t 8) (.seq (.reg [⟨(some 4), (.op (.mv (.k (.int .i64 2)))), none⟩])
  .ret)
  .skip)))))
  (.seq (.reg [⟨(some 4), (.op (.mv (.k (.int .i64 0)))), none⟩])
  .ret)))
def a46 : AF := ⟨15, [(.t 4)], .code b46, none⟩
theorem ok46 : AFOk Tryz.prog ext 46 a46 := .of Tryz.func46 (by kernel_rfl) (by kernel_rfl) (by kernel_rfl) (by kernel_rfl)
/-! 47: rowlock/reads.New -/
def b47 : AC :=
  (.seq (.reg [⟨(some 0), (.op (.mv (.k (.pointer none)))), none⟩])
  (.seq (.reg [⟨(some 1), (.op (.mkmap)), none⟩, ⟨(some 2), (.op (.build [(.slice none 0 0), (.map none)] [(1, 1, (.t 1))])), none⟩, ⟨(some 3), (.op (.box 163 (.t 2))), none⟩, ⟨(some 0), (.op (.mv (.t 3))), none⟩])
  .ret))
def a47 : AF := ⟨4, [(.t 0)], .code b47, none⟩
theorem ok47 : AFOk Tryz.prog ext 47 a47 := .of Tryz.func47 (by kernel_rfl) (by kernel_rfl) (by kernel_rfl) (by kernel_rfl)
/-! 48: rowlock/writes.New -/
def b48 : AC :=
  (.seq (.reg [⟨(some 0), (.op (.mv (.k (.pointer none)))), none⟩])
  (.seq (.reg [⟨(some 1), (.op (.mv (.k (.pointer none)))), none⟩])
  (.seq (.reg [⟨(some 2), (.op (.mv (.t 1))), none⟩, ⟨(some 3), (.call (.f 106) [(.t 2), (.k (.slice none 0 0))]), none⟩, ⟨(some 4), (.op (.build [(.pointer none), (.int .i64 0)] [(0, 1, (.t 3))])), none⟩, ⟨(some 5), (.op (.box 168 (.t 4))), none⟩, ⟨(some 0), (.op (.mv (.t 5))), none⟩])
  .ret)))
def a48 : AF := ⟨6, [(.t 0)], .code b48, none⟩
theorem ok48 : AFOk Tryz.prog ext 48 a48 := .of Tryz.func48 (by kernel_rfl) (by kernel_rfl) (by kernel_rfl) (by kernel_rfl)
/-! 49: (*rowlock/stripes.Table).Clock -/
def b49 : AC :=
  (.seq (.reg [⟨(some 2), (.op (.mv (.k (.int .u64 0)))), none⟩])
  (.seq (.seq (.reg [⟨(some 3), (.op (.mv (.t 0))), none⟩, ⟨(some 4), (.op (.eq false .ptr (.t 3) (.k (.pointer none)))), none⟩])
  (.cond (.t 4) (.seq (.reg [⟨(some 2), (.op (.mv (.k (.int .u64 0)))), none⟩])
  .ret)
  .skip))
  (.seq (.reg [⟨(some 5), (.op (.mv (.t 0))), none⟩, ⟨(some 6), (.op (.nilchk (.t 5))), none⟩, ⟨(some 7), (.op (.faddr 0 (.t 6))), none⟩, ⟨(some 8), (.op (.faddr 0 (.t 7))), none⟩, ⟨(some 9), (.op (.load (.t 8))), none⟩, ⟨(some 2), (.op (.mv (.t 9))), none⟩])
  .ret)))
def a49 : AF := ⟨10, [(.t 2)], .code b49, none⟩
theorem ok49 : AFOk Tryz.prog ext 49 a49 := .of Tryz.func49 (by kernel_rfl) (by kernel_rfl) (by kernel_rfl) (by kernel_rfl)
/-! 50: (*rowlock/tl2.Engine).tell -/
def b50 : AC :=
  (.seq (.reg [⟨(some 7), (.op (.box 104 (.t 3))), none⟩])
  (.dreg (.quiet ⟨(some 8), (.op (.mv (.t 0))), none⟩ (.quiet ⟨(some 9), (.op (.mv (.t 0))), none⟩ (.quiet ⟨(some 10), (.op (.nilchk (.t 9))), none⟩ (.quiet ⟨(some 11), (.op (.faddr 6 (.t 10))), none⟩ (.quiet ⟨(some 12), (.op (.load (.t 11))), none⟩ (.quiet ⟨(some 13), (.op (.mv (.t 1))), none⟩ (.quiet ⟨(some 14), (.op (.mv (.t 2))), none⟩ (.quiet ⟨(some 15), (.op (.nilchk (.t 14))), none⟩ (.quiet ⟨(some 16), (.op (.faddr 2 (.t 15))), none⟩ (.quiet ⟨(some 17), (.op (.load (.t 16))), none⟩ (.quiet ⟨(some 18), (.op (.faddr 0 (.t 7))), none⟩ (.quiet ⟨(some 19), (.op (.load (.t 18))), none⟩ (.quiet ⟨(some 20), (.op (.faddr 1 (.t 7))), none⟩ (.quiet ⟨(some 21), (.op (.load (.t 20))), none⟩ (.quiet ⟨(some 22), (.op (.build [(.int .u8 0), (.int .i64 0), (.int .i64 0), (.int .u64 0)] [(0, 1, (.t 13)), (1, 1, (.t 17)), (2, 1, (.t 19)), (3, 1, (.t 21))])), none⟩ (.loud ⟨(some 23), (.op (.bslice 121 [(.int .u8 0), (.int .i64 0), (.int .i64 0), (.int .u64 0)] 1 [(0, 4, (.t 22))])), none⟩ [⟨(some 12), (.op (.load (.t 11))), none⟩] (.loud ⟨(some 24), (.op (.append 121 4 32 (.t 12) (.t 23))), none⟩ [] (.quiet ⟨(some 25), (.op (.nilchk (.t 8))), none⟩ (.quiet ⟨(some 26), (.op (.faddr 6 (.t 25))), none⟩ (.loud ⟨none, (.op (.store 1 (.t 26) (.t 24))), none⟩ [] .nil))))))))))))))))))))))
def a50 : AF := ⟨27, [], .code b50, none⟩
theorem ok50 : AFOk Tryz.prog ext 50 a50 := .of Tryz.func50 (by kernel_rfl) (by kernel_rfl) (by kernel_rfl) (by kernel_rfl)
/-! 51: (*rowlock/tl2.attempt).idle -/
def b51 : AC :=
  (.seq (.reg [⟨(some 2), (.op (.mv (.k (.bool false)))), none⟩])
  (.seq (.reg [⟨(some 3), (.op (.mv (.t 0))), none⟩, ⟨(some 4), (.op (.nilchk (.t 3))), none⟩, ⟨(some 5), (.op (.faddr 5 (.t 4))), none⟩, ⟨(some 6), (.op (.faddr 0 (.t 5))), none⟩, ⟨(some 7), (.op (.load (.t 6))), none⟩, ⟨(some 8), (.op (.bin .eql (.t 7) (.k (.int .u8 0)))), none⟩, ⟨(some 2), (.op (.mv (.t 8))), none⟩])
  .ret))
def a51 : AF := ⟨9, [(.t 2)], .code b51, none⟩
theorem ok51 : AFOk Tryz.prog ext 51 a51 := .of Tryz.func51 (by kernel_rfl) (by kernel_rfl) (by kernel_rfl) (by kernel_rfl)
/-! 52: (*rowlock/tl2.Engine).wanted -/
def b52 : AC :=
  (.seq (.reg [⟨(some 5), (.op (.box 32 (.t 2))), none⟩, ⟨(some 6), (.op (.mv (.k (.int .i64 0)))), none⟩])
  (.seq (.reg [⟨(some 8), (.op (.mv (.t 1))), none⟩, ⟨(some 9), (.op (.nilchk (.t 8))), none⟩, ⟨(some 10), (.op (.faddr 1 (.t 9))), none⟩, ⟨(some 11), (.op (.load (.t 10))), none⟩, ⟨(some 12), (.call (.f 107) [(.t 11)]), none⟩, ⟨(some 7), (.op (.mv (.t 12))), none⟩])
  (.seq (.seq (.reg [⟨(some 13), (.op (.faddr 0 (.t 5))), none⟩, ⟨(some 14), (.op (.load (.t 13))), none⟩])
  (.block 0 (.seq (.seq (.reg [⟨(some 16), (.op (.bin .eql (.t 14) (.k (.int .u8 1)))), none⟩, ⟨(some 15), (.op (.mv (.t 16))), none⟩])
  (.cond (.t 15) .skip
  (.reg [⟨(some 17), (.op (.bin .eql (.t 14) (.k (.int .u8 2)))), none⟩, ⟨(some 15), (.op (.mv (.t 17))), none⟩])))
  (.cond (.t 15) (.seq (.seq (.dreg (.quiet ⟨(some 18), (.op (.faddr 1 (.t 5))), none⟩ (.quiet ⟨(some 19), (.op (.load (.t 18))), none⟩ (.quiet ⟨(some 20), (.op (.bin .lss (.t 19) (.k (.int .i64 0)))), none⟩ (.quiet ⟨(some 21), (.op (.mv (.t 20))), none⟩ (.quiet ⟨(some 22), (.op (.faddr 1 (.t 5))), (some (21, false))⟩ (.quiet ⟨(some 23), (.op (.load (.t 22))), (some (21, false))⟩ (.quiet ⟨(some 24), (.op (.mv (.t 0))), (some (21, false))⟩ (.quiet ⟨(some 25), (.op (.nilchk (.t 24))), (some (21, false))⟩ (.quiet ⟨(some 26), (.op (.faddr 1 (.t 25))), (some (21, false))⟩ (.quiet ⟨(some 27), (.op (.load (.t 26))), (some (21, false))⟩ (.quiet ⟨(some 28), (.op (.lenS (.t 27))), (some (21, false))⟩ (.quiet ⟨(some 29), (.op (.bin .geq (.t 23) (.t 28))), (some (21, false))⟩ (.quiet ⟨(some 30), (.op (.pick (.t 21) (.k (.bool true)) (.t 29))), none⟩ .nil))))))))))))))
  (.cond (.t 30) (.seq (.reg [⟨(some 6), (.op (.mv (.k (.int .i64 2)))), none⟩])
  .ret)
  .skip))
  (.seq (.reg [⟨(some 31), (.op (.faddr 0 (.t 5))), none⟩, ⟨(some 32), (.op (.load (.t 31))), none⟩, ⟨(some 33), (.op (.bin .eql (.t 32) (.k (.int .u8 2)))), none⟩, ⟨(some 34), (.op (.mv (.t 33))), none⟩, ⟨(some 35), (.op (.faddr 2 (.t 5))), (some (34, true))⟩, ⟨(some 36), (.op (.load (.t 35))), (some (34, true))⟩, ⟨(some 37), (.call (.f 43) [(.t 36)]), (some (34, true))⟩, ⟨(some 38), (.op (.un .not (.t 37))), (some (34, true))⟩, ⟨(some 39), (.op (.pick (.t 34) (.t 38) (.k (.bool false)))), none⟩])
  (.cond (.t 39) (.seq (.reg [⟨(some 6), (.op (.mv (.k (.int .i64 3)))), none⟩])
  .ret)
  .skip)))
  (.seq (.reg [⟨(some 41), (.op (.bin .eql (.t 14) (.k (.int .u8 3)))), none⟩, ⟨(some 40), (.op (.mv (.t 41))), none⟩])
  (.cond (.t 40) (.seq (.reg [⟨(some 42), (.op (.mv (.t 7))), none⟩, ⟨(some 43), (.op (.bin .geq (.t 42) (.k (.int .i64 4)))), none⟩])
  (.cond (.t 43) (.seq (.reg [⟨(some 6), (.op (.mv (.k (.int .i64 4)))), none⟩])
  .ret)
  .skip))
  (.seq (.seq (.reg [⟨(some 45), (.op (.bin .eql (.t 14) (.k (.int .u8 4)))), none⟩, ⟨(some 44), (.op (.mv (.t 45))), none⟩])
  (.cond (.t 44) .skip
  (.reg [⟨(some 46), (.op (.bin .eql (.t 14) (.k (.int .u8 5)))), none⟩, ⟨(some 44), (.op (.mv (.t 46))), none⟩])))
  (.cond (.t 44) (.seq (.reg [⟨(some 47), (.op (.mv (.t 7))), none⟩, ⟨(some 48), (.op (.bin .eql (.t 47) (.k (.int .i64 0)))), none⟩])
  (.cond (.t 48) (.seq (.reg [⟨(some 6), (.op (.mv (.k (.int .i64 8)))), none⟩])
  .ret)
  .skip))
  (.seq (.reg [⟨(some 50), (.op (.bin .eql (.t 14) (.k (.int .u8 6)))), none⟩, ⟨(some 49), (.op (.mv (.t 50))), none⟩])
  (.cond (.t 49) (.seq (.reg [⟨(some 51), (.op (.mv (.t 7))), none⟩, ⟨(some 52), (.op (.bin .gtr (.t 51) (.k (.int .i64 0)))), none⟩])
  (.cond (.t 52) (.seq (.reg [⟨(some 6), (.op (.mv (.k (.int .i64 8)))), none⟩])
  .ret)
  .skip))
  (.seq (.reg [⟨(some 54), (.op (.bin .eql (.t 14) (.k (.int .u8 7)))), none⟩, ⟨(some 53), (.op (.mv (.t 54))), none⟩])
  (.cond (.t 53) .skip
  (.seq (.reg [⟨(some 6), (.op (.mv (.k (.int .i64 2)))), none⟩])
  .ret)))))))))))))
  (.seq (.reg [⟨(some 6), (.op (.mv (.k (.int .i64 0)))), none⟩])
  .ret))))
def a52 : AF := ⟨55, [(.t 6)], .code b52, none⟩
theorem ok52 : AFOk Tryz.prog ext 52 a52 := .of Tryz.func52 (by kernel_rfl) (by kernel_rfl) (by kernel_rfl) (by kernel_rfl)
/-! 53: (*rowlock/tl2.Engine).way -/
def b53 : AC :=
  (.seq (.reg [⟨(some 4), (.op (.mv (.k .nilFunc))), none⟩])
  (.seq (.seq (.reg [⟨(some 5), (.op (.mv (.t 1))), none⟩])
  (.block 0 (.seq (.reg [⟨(some 7), (.op (.bin .eql (.t 5) (.k (.int .u8 1)))), none⟩, ⟨(some 6), (.op (.mv (.t 7))), none⟩])
  (.cond (.t 6) (.seq (.reg [⟨(some 8), (.op (.mv (.t 0))), none⟩, ⟨(some 9), (.op (.mkfunc 108 [(.t 8)] [])), none⟩, ⟨(some 4), (.op (.mv (.t 9))), none⟩])
  .ret)
  (.seq (.reg [⟨(some 11), (.op (.bin .eql (.t 5) (.k (.int .u8 6)))), none⟩, ⟨(some 10), (.op (.mv (.t 11))), none⟩])
  (.cond (.t 10) (.seq (.reg [⟨(some 12), (.op (.mv (.t 0))), none⟩, ⟨(some 13), (.op (.mkfunc 109 [(.t 12)] [])), none⟩, ⟨(some 4), (.op (.mv (.t 13))), none⟩])
  .ret)
  (.seq (.reg [⟨(some 15), (.op (.bin .eql (.t 5) (.k (.int .u8 7)))), none⟩, ⟨(some 14), (.op (.mv (.t 15))), none⟩])
  (.cond (.t 14) (.seq (.reg [⟨(some 16), (.op (.mv (.t 0))), none⟩, ⟨(some 17), (.op (.mkfunc 110 [(.t 16)] [])), none⟩, ⟨(some 4), (.op (.mv (.t 17))), none⟩])
  .ret)
  .skip))))))))
  (.seq (.reg [⟨(some 18), (.op (.mv (.t 0))), none⟩, ⟨(some 19), (.op (.mkfunc 111 [(.t 18)] [])), none⟩, ⟨(some 4), (.op (.mv (.t 19))), none⟩])
  .ret)))
def a53 : AF := ⟨20, [(.t 4)], .code b53, none⟩
theorem ok53 : AFOk Tryz.prog ext 53 a53 := .of Tryz.func53 (by kernel_rfl) (by kernel_rfl) (by kernel_rfl) (by kernel_rfl)
/-! 54: (*rowlock/tl2.Engine).of -/
def b54 : AC :=
  (.seq (.reg [⟨(some 4), (.op (.mv (.k (.pointer none)))), none⟩])
  (.seq (.seq (.reg [⟨(some 5), (.op (.mv (.t 0))), none⟩, ⟨(some 6), (.op (.mv (.t 1))), none⟩, ⟨(some 7), (.call (.f 46) [(.t 5), (.t 6)]), none⟩, ⟨(some 8), (.op (.bin .neq (.t 7) (.k (.int .i64 0)))), none⟩])
  (.cond (.t 8) (.seq (.reg [⟨(some 4), (.op (.mv (.k (.pointer none)))), none⟩])
  .ret)
  .skip))
  (.seq (.reg [⟨(some 9), (.op (.mv (.t 0))), none⟩, ⟨(some 10), (.op (.mv (.t 1))), none⟩, ⟨(some 11), (.op (.nilchk (.t 9))), none⟩, ⟨(some 12), (.op (.faddr 2 (.t 11))), none⟩, ⟨(some 13), (.op (.iaddrA 4 1 (.t 12) (.t 10))), none⟩, ⟨(some 14), (.op (.load (.t 13))), none⟩, ⟨(some 4), (.op (.mv (.t 14))), none⟩])
  .ret)))
def a54 : AF := ⟨15, [(.t 4)], .code b54, none⟩
theorem ok54 : AFOk Tryz.prog ext 54 a54 := .of Tryz.func54 (by kernel_rfl) (by kernel_rfl) (by kernel_rfl) (by kernel_rfl)
/-! 55: (*rowlock/writes.Log).All -/
def b55 : AC :=
  (.seq (.reg [⟨(some 2), (.op (.mv (.k (.slice none 0 0)))), none⟩])
  (.seq (.reg [⟨(some 3), (.op (.mv (.k (.slice none 0 0)))), none⟩])
  (.seq (.seq (.reg [⟨(some 7), (.op (.mv (.k (.int .i64 0)))), none⟩])
  (.block 0 (.loop (.seq (.reg [⟨(some 8), (.op (.bin .lss (.t 7) (.k (.int .i64 12)))), none⟩])
   (.seq (.cond (.t 8) .skip
   (.exit 0))
   (.seq (.block 1 (.seq (.reg [⟨(some 9), (.op (.mv (.t 7))), none⟩, ⟨(some 4), (.op (.mv (.t 9))), none⟩])
   (.seq (.reg [⟨(some 11), (.op (.mv (.t 0))), none⟩, ⟨(some 12), (.op (.mv (.t 4))), none⟩, ⟨(some 13), (.call (.f 112) [(.t 11), (.t 12)]), none⟩, ⟨(some 10), (.op (.mv (.t 13))), none⟩, ⟨(some 14), (.op (.extract (.t 10) 0)), none⟩, ⟨(some 15), (.op (.extract (.t 10) 1)), none⟩, ⟨(some 5), (.op (.mv (.t 14))), none⟩, ⟨(some 6), (.op (.mv (.t 15))), none⟩])
   (.seq (.reg [⟨(some 16), (.op (.mv (.t 6))), none⟩])
   (.cond (.t 16) (.reg [⟨(some 17), (.op (.mv (.t 3))), none⟩, ⟨(some 18), (.op (.mv (.t 4))), none⟩, ⟨(some 19), (.op (.mv (.t 5))), none⟩, ⟨(some 20), (.op (.build [(.int .i64 0), (.int .u64 0)] [(0, 1, (.t 18)), (1, 1, (.t 19))])), none⟩, ⟨(some 21), (.op (.bslice 104 [(.int .i64 0), (.int .u64 0)] 1 [(0, 2, (.t 20))])), none⟩, ⟨(some 22), (.op (.append 104 2 16 (.t 17) (.t 21))), none⟩, ⟨(some 3), (.op (.mv (.t 22))), none⟩])
   .skip)))))
   (.reg [⟨(some 23), (.op (.bin .add (.t 7) (.k (.int .i64 1)))), none⟩, ⟨(some 7), (.op (.mv (.t 23))), none⟩])))))))
  (.seq (.reg [⟨(some 24), (.op (.mv (.t 3))), none⟩, ⟨(some 2), (.op (.mv (.t 24))), none⟩])
  .ret))))
def a55 : AF := ⟨25, [(.t 2)], .code b55, none⟩
theorem ok55 : AFOk Tryz.prog ext 55 a55 := .of Tryz.func55 (by kernel_rfl) (by kernel_rfl) (by kernel_rfl) (by kernel_rfl)
/-! 56: (*rowlock/tl2.Engine).end -/
def b56 : AC :=
  (.seq (.reg [⟨(some 6), (.op (.alloc 41 [(.bool false), (.int .u64 0), (.bool false), (.int .i64 0), (.bool false), (.int .u8 0), (.int .i64 0)])), none⟩])
  (.seq (.reg [⟨(some 8), (.op (.mv (.t 0))), none⟩, ⟨(some 9), (.op (.mv (.t 1))), none⟩, ⟨(some 10), (.op (.nilchk (.t 8))), none⟩, ⟨(some 11), (.op (.faddr 2 (.t 10))), none⟩, ⟨(some 12), (.op (.iaddrA 4 1 (.t 11) (.t 9))), none⟩, ⟨(some 13), (.op (.load (.t 12))), none⟩, ⟨(some 7), (.op (.mv (.t 13))), none⟩])
  (.seq (.reg [⟨(some 14), (.op (.mv (.t 0))), none⟩, ⟨(some 15), (.op (.nilchk (.t 14))), none⟩, ⟨(some 16), (.op (.faddr 0 (.t 15))), none⟩, ⟨(some 17), (.op (.load (.t 16))), none⟩, ⟨(some 18), (.op (.mv (.t 1))), none⟩, ⟨(some 19), (.call (.f 113) [(.t 17), (.t 18)]), none⟩])
  (.seq (.dreg (.quiet ⟨(some 20), (.op (.mv (.t 0))), none⟩ (.quiet ⟨(some 21), (.op (.nilchk (.t 20))), none⟩ (.quiet ⟨(some 22), (.op (.faddr 7 (.t 21))), none⟩ (.quiet ⟨(some 23), (.op (.load (.t 22))), none⟩ (.quiet ⟨(some 24), (.op (.mv (.t 7))), none⟩ (.quiet ⟨(some 25), (.op (.nilchk (.t 24))), none⟩ (.quiet ⟨(some 26), (.op (.faddr 2 (.t 25))), none⟩ (.quiet ⟨(some 27), (.op (.load (.t 26))), none⟩ (.quiet ⟨(some 28), (.op (.mv (.t 2))), none⟩ (.quiet ⟨(some 29), (.op (.iaddrS 3 (.t 23) (.t 27))), none⟩ (.quiet ⟨(some 30), (.op (.faddr 2 (.t 29))), none⟩ (.loud ⟨none, (.op (.store 1 (.t 30) (.t 28))), none⟩ [] .nil)))))))))))))
  (.seq (.reg [⟨(some 31), (.op (.mv (.t 0))), none⟩, ⟨(some 32), (.op (.mv (.t 1))), none⟩, ⟨(some 33), (.op (.nilchk (.t 31))), none⟩, ⟨(some 34), (.op (.faddr 2 (.t 33))), none⟩, ⟨(some 35), (.op (.iaddrA 4 1 (.t 34) (.t 32))), none⟩, ⟨none, (.op (.store 1 (.t 35) (.k (.pointer none)))), none⟩])
  (.seq (.reg [⟨(some 36), (.op (.mv (.t 0))), none⟩, ⟨(some 37), (.op (.mv (.t 7))), none⟩, ⟨(some 38), (.op (.build [(.int .i64 0), (.int .u64 0)] [])), none⟩, ⟨(some 39), (.call (.f 50) [(.t 36), (.k (.int .u8 9)), (.t 37), (.t 38)]), none⟩])
  (.seq (.reg [⟨(some 40), (.op (.mv (.t 2))), none⟩, ⟨(some 41), (.op (.build [(.bool false), (.int .u64 0), (.bool false), (.int .i64 0), (.bool false), (.int .u8 0), (.int .i64 0)] [(0, 1, (.k (.bool true))), (4, 1, (.k (.bool true))), (5, 1, (.t 40))])), none⟩, ⟨none, (.op (.store 7 (.t 6) (.t 41))), none⟩])
  .ret)))))))
def a56 : AF := ⟨42, [(.c 6 true 7)], .code b56, none⟩
theorem ok56 : AFOk Tryz.prog ext 56 a56 := .of Tryz.func56 (by kernel_rfl) (by kernel_rfl) (by kernel_rfl) (by kernel_rfl)
/-! 57: slices.Sort[[]int,int] -/
def b57 : AC :=
  (.seq (.reg [⟨(some 3), (.op (.mv (.t 0))), none⟩, ⟨(some 4), (.op (.lenS (.t 3))), none⟩, ⟨(some 2), (.op (.mv (.t 4))), none⟩])
  (.reg [⟨(some 5), (.op (.mv (.t 0))), none⟩, ⟨(some 6), (.op (.mv (.t 2))), none⟩, ⟨(some 7), (.op (.mv (.t 2))), none⟩, ⟨(some 8), (.op (.conv (.int .u64) (.t 7))), none⟩, ⟨(some 9), (.call (.f 115) [(.t 8)]), none⟩, ⟨(some 10), (.call (.f 114) [(.t 5), (.k (.int .i64 0)), (.t 6), (.t 9)]), none⟩]))
def a57 : AF := ⟨11, [], .code b57, none⟩
theorem ok57 : AFOk Tryz.prog ext 57 a57 := .of Tryz.func57 (by kernel_rfl) (by kernel_rfl) (by kernel_rfl) (by kernel_rfl)
/-! 58: (*rowlock/stripes.Table).Held -/
def b58 : AC :=
  (.seq (.reg [⟨(some 4), (.op (.mv (.k (.slice none 0 0)))), none⟩])
  (.seq (.reg [⟨(some 5), (.op (.alloc 55 [(.slice none 0 0)])), none⟩])
  (.seq (.seq (.reg [⟨(some 7), (.op (.mv (.t 0))), none⟩, ⟨(some 8), (.op (.mv (.t 1))), none⟩, ⟨(some 9), (.call (.f 116) [(.t 7), (.t 8)]), none⟩])
  (.block 0 (.rfunc (.t 9) [10] (.reg [⟨(some 6), (.op (.mv (.t 10))), none⟩])
   (.block 1 (.reg [⟨(some 11), (.op (.load (.t 5))), none⟩, ⟨(some 12), (.op (.mv (.t 6))), none⟩, ⟨(some 13), (.op (.bslice 3 [(.int .i64 0)] 1 [(0, 1, (.t 12))])), none⟩, ⟨(some 14), (.op (.append 3 1 8 (.t 11) (.t 13))), none⟩, ⟨none, (.op (.store 1 (.t 5) (.t 14))), none⟩])))))
  (.seq (.reg [⟨(some 15), (.op (.load (.t 5))), none⟩, ⟨(some 4), (.op (.mv (.t 15))), none⟩])
  .ret))))
def a58 : AF := ⟨16, [(.t 4)], .code b58, none⟩
theorem ok58 : AFOk Tryz.prog ext 58 a58 := .of Tryz.func58 (by kernel_rfl) (by kernel_rfl) (by kernel_rfl) (by kernel_rfl)
/-! 64: slices.Clone[[]rowlock/api.Event,rowlock/api.Event] -/
def b64 : AC :=
  (.seq (.reg [⟨(some 2), (.op (.mv (.k (.slice none 0 0)))), none⟩])
  (.seq (.seq (.reg [⟨(some 3), (.op (.mv (.t 0))), none⟩, ⟨(some 4), (.isnil false (.t 3)), none⟩])
  (.cond (.t 4) (.seq (.reg [⟨(some 2), (.op (.mv (.k (.slice none 0 0)))), none⟩])
  .ret)
  .skip))
  (.seq (.reg [⟨(some 5), (.op (.bslice 121 [] 0 [])), none⟩, ⟨(some 6), (.op (.mv (.t 0))), none⟩, ⟨(some 7), (.op (.append 121 4 32 (.t 5) (.t 6))), none⟩, ⟨(some 2), (.op (.mv (.t 7))), none⟩])
  .ret)))
def a64 : AF := ⟨8, [(.t 2)], .code b64, none⟩
theorem ok64 : AFOk Tryz.prog ext 64 a64 := .of Tryz.func64 (by kernel_rfl) (by kernel_rfl) (by kernel_rfl) (by kernel_rfl)
/-! 97: rowlock/rowlockref01.Right -/
def b97 : AC :=
  (.seq (.reg [⟨(some 2), (.op (.mv (.k (.bool false)))), none⟩])
  (.seq (.reg [⟨(some 4), (.op (.mv (.t 0))), none⟩, ⟨(some 5), (.op (.frombits (.t 4))), none⟩, ⟨(some 3), (.op (.mv (.t 5))), none⟩])
  (.seq (.reg [⟨(some 6), (.op (.mv (.t 3))), none⟩, ⟨(some 7), (.op (.mv (.t 3))), none⟩, ⟨(some 8), (.op (.bin .eql (.t 6) (.t 7))), none⟩, ⟨(some 9), (.op (.mv (.t 8))), none⟩, ⟨(some 10), (.op (.mv (.t 0))), (some (9, false))⟩, ⟨(some 11), (.op (.bin .eql (.t 10) (.k (.int .u64 9221120237041090560)))), (some (9, false))⟩, ⟨(some 12), (.op (.pick (.t 9) (.k (.bool true)) (.t 11))), none⟩, ⟨(some 2), (.op (.mv (.t 12))), none⟩])
  .ret)))
def a97 : AF := ⟨13, [(.t 2)], .code b97, none⟩
theorem ok97 : AFOk Tryz.prog ext 97 a97 := .of Tryz.func97 (by kernel_rfl) (by kernel_rfl) (by kernel_rfl) (by kernel_rfl)
/-! 98: (*rowlock/reads.Set).List -/
def b98 : AC :=
  (.seq (.reg [⟨(some 2), (.op (.mv (.k (.slice none 0 0)))), none⟩])
  (.seq (.seq (.reg [⟨(some 6), (.op (.mv (.t 0))), none⟩, ⟨(some 7), (.op (.eq false .ptr (.t 6) (.k (.pointer none)))), none⟩])
  (.cond (.t 7) (.seq (.reg [⟨(some 2), (.op (.mv (.k (.slice none 0 0)))), none⟩])
  .ret)
  .skip))
  (.seq (.reg [⟨(some 3), (.op (.mv (.k (.slice none 0 0)))), none⟩])
  (.seq (.seq (.reg [⟨(some 8), (.op (.mv (.t 0))), none⟩, ⟨(some 9), (.op (.nilchk (.t 8))), none⟩, ⟨(some 10), (.op (.faddr 0 (.t 9))), none⟩, ⟨(some 11), (.op (.load (.t 10))), none⟩, ⟨(some 12), (.op (.lenS (.t 11))), none⟩, ⟨(some 13), (.op (.mv (.k (.int .i64 0)))), none⟩])
  (.block 0 (.loop (.seq (.reg [⟨(some 14), (.op (.bin .lss (.t 13) (.t 12))), none⟩])
   (.seq (.cond (.t 14) .skip
   (.exit 0))
   (.seq (.block 1 (.seq (.reg [⟨(some 15), (.op (.iaddrS 1 (.t 11) (.t 13))), none⟩, ⟨(some 16), (.op (.load (.t 15))), none⟩, ⟨(some 5), (.op (.mv (.t 16))), none⟩])
   (.reg [⟨(some 17), (.op (.mv (.t 3))), none⟩, ⟨(some 18), (.op (.mv (.t 0))), none⟩, ⟨(some 19), (.op (.nilchk (.t 18))), none⟩, ⟨(some 20), (.op (.faddr 1 (.t 19))), none⟩, ⟨(some 21), (.op (.load (.t 20))), none⟩, ⟨(some 22), (.op (.mv (.t 5))), none⟩, ⟨(some 23), (.op (.lookup false (.agg #[(.int .i64 0), (.int .u64 0), (.int .u64 0)]) false (.t 21) (.t 22))), none⟩, ⟨(some 24), (.op (.bslice 191 [(.int .i64 0), (.int .u64 0), (.int .u64 0)] 1 [(0, 3, (.t 23))])), none⟩, ⟨(some 25), (.op (.append 191 3 24 (.t 17) (.t 24))), none⟩, ⟨(some 3), (.op (.mv (.t 25))), none⟩])))
   (.reg [⟨(some 26), (.op (.bin .add (.t 13) (.k (.int .i64 1)))), none⟩, ⟨(some 13), (.op (.mv (.t 26))), none⟩])))))))
  (.seq (.reg [⟨(some 27), (.op (.mv (.t 3))), none⟩, ⟨(some 2), (.op (.mv (.t 27))), none⟩])
  .ret)))))
def a98 : AF := ⟨28, [(.t 2)], .code b98, none⟩
theorem ok98 : AFOk Tryz.prog ext 98 a98 := .of Tryz.func98 (by kernel_rfl) (by kernel_rfl) (by kernel_rfl) (by kernel_rfl)
/-! 102: (*rowlock/stripes.Table).Word -/
def b102 : AC :=
  (.seq (.reg [⟨(some 4), (.op (.mv (.k (.int .u64 0)))), none⟩, ⟨(some 5), (.op (.mv (.k (.int .i64 0)))), none⟩])
  (.seq (.seq (.reg [⟨(some 7), (.op (.mv (.t 0))), none⟩, ⟨(some 8), (.op (.mv (.t 1))), none⟩, ⟨(some 9), (.call (.f 148) [(.t 7), (.t 8)]), none⟩, ⟨(some 6), (.op (.mv (.t 9))), none⟩])
  (.seq (.reg [⟨(some 10), (.op (.mv (.t 6))), none⟩, ⟨(some 11), (.op (.bin .neq (.t 10) (.k (.int .i64 0)))), none⟩])
  (.cond (.t 11) (.seq (.reg [⟨(some 12), (.op (.mv (.t 6))), none⟩, ⟨(some 4), (.op (.mv (.k (.int .u64 0)))), none⟩, ⟨(some 5), (.op (.mv (.t 12))), none⟩])
  .ret)
  .skip)))
  (.seq (.reg [⟨(some 13), (.op (.mv (.t 0))), none⟩, ⟨(some 14), (.op (.nilchk (.t 13))), none⟩, ⟨(some 15), (.op (.faddr 1 (.t 14))), none⟩, ⟨(some 16), (.op (.load (.t 15))), none⟩, ⟨(some 17), (.op (.mv (.t 1))), none⟩, ⟨(some 18), (.op (.iaddrS 1 (.t 16) (.t 17))), none⟩, ⟨(some 19), (.op (.load (.t 18))), none⟩, ⟨(some 4), (.op (.mv (.t 19))), none⟩, ⟨(some 5), (.op (.mv (.k (.int .i64 0)))), none⟩])
  .ret)))
def a102 : AF := ⟨20, [(.t 4), (.t 5)], .code b102, none⟩
theorem ok102 : AFOk Tryz.prog ext 102 a102 := .of Tryz.func102 (by kernel_rfl) (by kernel_rfl) (by kernel_rfl) (by kernel_rfl)
/-! 103: (*rowlock/stripes.Table).Of -/
def b103 : AC :=
  (.seq (.reg [⟨(some 4), (.op (.mv (.k (.int .i64 0)))), none⟩])
  (.seq (.seq (.reg [⟨(some 5), (.op (.mv (.t 0))), none⟩, ⟨(some 6), (.op (.eq false .ptr (.t 5) (.k (.pointer none)))), none⟩, ⟨(some 7), (.op (.mv (.t 6))), none⟩, ⟨(some 8), (.op (.mv (.t 1))), (some (7, false))⟩, ⟨(some 9), (.op (.bin .lss (.t 8) (.k (.int .i64 0)))), (some (7, false))⟩, ⟨(some 10), (.op (.pick (.t 7) (.k (.bool true)) (.t 9))), none⟩, ⟨(some 11), (.op (.mv (.t 10))), none⟩, ⟨(some 12), (.op (.mv (.t 1))), (some (11, false))⟩, ⟨(some 13), (.op (.bin .geq (.t 12) (.k (.int .i64 12)))), (some (11, false))⟩, ⟨(some 14), (.op (.pick (.t 11) (.k (.bool true)) (.t 13))), none⟩])
  (.cond (.t 14) (.seq (.reg [⟨(some 4), (.op (.mv (.k (.int .i64 (-1))))), none⟩])
  .ret)
  .skip))
  (.seq (.reg [⟨(some 15), (.op (.mv (.t 1))), none⟩, ⟨(some 16), (.op (.bin .mul (.t 15) (.k (.int .i64 5)))), none⟩, ⟨(some 17), (.op (.bin .add (.t 16) (.k (.int .i64 3)))), none⟩, ⟨(some 18), (.op (.mv (.t 0))), none⟩, ⟨(some 19), (.op (.nilchk (.t 18))), none⟩, ⟨(some 20), (.op (.faddr 1 (.t 19))), none⟩, ⟨(some 21), (.op (.load (.t 20))), none⟩, ⟨(some 22), (.op (.lenS (.t 21))), none⟩, ⟨(some 23), (.op (.bin .rem (.t 17) (.t 22))), none⟩, ⟨(some 4), (.op (.mv (.t 23))), none⟩])
  .ret)))
def a103 : AF := ⟨24, [(.t 4)], .code b103, none⟩
theorem ok103 : AFOk Tryz.prog ext 103 a103 := .of Tryz.func103 (by kernel_rfl) (by kernel_rfl) (by kernel_rfl) (by kernel_rfl)
/-! 104: rowlock/lockword.Passes -/
def b104 : AC :=
  (.seq (.reg [⟨(some 6), (.op (.mv (.k (.bool false)))), none⟩])
  (.seq (.reg [⟨(some 10), (.op (.mv (.t 0))), none⟩, ⟨(some 11), (.call (.f 149) [(.t 10)]), none⟩, ⟨(some 9), (.op (.mv (.t 11))), none⟩, ⟨(some 12), (.op (.extract (.t 9) 0)), none⟩, ⟨(some 13), (.op (.extract (.t 9) 1)), none⟩, ⟨(some 7), (.op (.alloc 209 [(.int .i64 0), (.int .u64 0)])), none⟩, ⟨none, (.op (.store 2 (.t 7) (.t 12))), none⟩, ⟨(some 8), (.op (.mv (.t 13))), none⟩])
  (.seq (.reg [⟨(some 14), (.op (.mv (.t 8))), none⟩, ⟨(some 15), (.op (.mv (.t 14))), none⟩, ⟨(some 16), (.op (.faddr 0 (.t 7))), (some (15, true))⟩, ⟨(some 17), (.op (.load (.t 16))), (some (15, true))⟩, ⟨(some 18), (.op (.bin .eql (.t 17) (.k (.int .i64 (-1))))), (some (15, true))⟩, ⟨(some 19), (.op (.mv (.t 18))), (some (15, true))⟩, ⟨(some 20), (.op (.faddr 0 (.t 7))), (some (19, false))⟩, ⟨(some 21), (.op (.load (.t 20))), (some (19, false))⟩, ⟨(some 22), (.op (.mv (.t 1))), (some (19, false))⟩, ⟨(some 23), (.op (.bin .eql (.t 21) (.t 22))), (some (19, false))⟩, ⟨(some 24), (.op (.pick (.t 19) (.k (.bool true)) (.t 23))), (some (15, true))⟩, ⟨(some 25), (.op (.pick (.t 15) (.t 24) (.k (.bool false)))), none⟩, ⟨(some 26), (.op (.mv (.t 25))), none⟩, ⟨(some 27), (.op (.faddr 1 (.t 7))), (some (26, true))⟩, ⟨(some 28), (.op (.load (.t 27))), (some (26, true))⟩, ⟨(some 29), (.op (.mv (.t 2))), (some (26, true))⟩, ⟨(some 30), (.op (.bin .leq (.t 28) (.t 29))), (some (26, true))⟩, ⟨(some 31), (.op (.pick (.t 26) (.t 30) (.k (.bool false)))), none⟩, ⟨(some 6), (.op (.mv (.t 31))), none⟩])
  .ret)))
def a104 : AF := ⟨32, [(.t 6)], .code b104, none⟩
theorem ok104 : AFOk Tryz.prog ext 104 a104 := .of Tryz.func104 (by kernel_rfl) (by kernel_rfl) (by kernel_rfl) (by kernel_rfl)
/-! 105: slices.IndexFunc[[]rowlock/api.Val,rowlock/api.Val] -/
def b105 : AC :=
  (.seq (.reg [⟨(some 4), (.op (.mv (.k (.int .i64 0)))), none⟩])
  (.seq (.seq (.reg [⟨(some 6), (.op (.mv (.t 0))), none⟩, ⟨(some 7), (.op (.lenS (.t 6))), none⟩, ⟨(some 8), (.op (.mv (.k (.int .i64 0)))), none⟩])
  (.block 0 (.loop (.seq (.reg [⟨(some 9), (.op (.bin .lss (.t 8) (.t 7))), none⟩])
   (.seq (.cond (.t 9) .skip
   (.exit 0))
   (.seq (.block 1 (.seq (.reg [⟨(some 10), (.op (.mv (.t 8))), none⟩, ⟨(some 5), (.op (.mv (.t 10))), none⟩])
   (.seq (.reg [⟨(some 11), (.op (.mv (.t 1))), none⟩, ⟨(some 12), (.op (.mv (.t 0))), none⟩, ⟨(some 13), (.op (.mv (.t 5))), none⟩, ⟨(some 14), (.op (.iaddrS 1 (.t 12) (.t 13))), none⟩, ⟨(some 15), (.op (.load (.t 14))), none⟩, ⟨(some 16), (.call (.t 11) [(.t 15)]), none⟩])
   (.cond (.t 16) (.seq (.reg [⟨(some 17), (.op (.mv (.t 5))), none⟩, ⟨(some 4), (.op (.mv (.t 17))), none⟩])
   .ret)
   .skip))))
   (.reg [⟨(some 18), (.op (.bin .add (.t 8) (.k (.int .i64 1)))), none⟩, ⟨(some 8), (.op (.mv (.t 18))), none⟩])))))))
  (.seq (.reg [⟨(some 4), (.op (.mv (.k (.int .i64 (-1))))), none⟩])
  .ret)))
def a105 : AF := ⟨19, [(.t 4)], .code b105, none⟩
theorem ok105 : AFOk Tryz.prog ext 105 a105 := .of Tryz.func105 (by kernel_rfl) (by kernel_rfl) (by kernel_rfl) (by kernel_rfl)
/-! 106: (*rowlock/writes.stack[rowlock/writes.frame]).push -/
def b106 : AC :=
  (.seq (.reg [⟨(some 4), (.op (.mv (.k (.pointer none)))), none⟩])
  (.seq (.reg [⟨(some 5), (.op (.mv (.t 1))), none⟩, ⟨(some 6), (.op (.mv (.t 0))), none⟩, ⟨(some 7), (.op (.build [(.slice none 0 0), (.pointer none)] [(0, 1, (.t 5)), (1, 1, (.t 6))])), none⟩, ⟨(some 8), (.op (.box 213 (.t 7))), none⟩, ⟨(some 4), (.op (.mv (.t 8))), none⟩])
  .ret))
def a106 : AF := ⟨9, [(.t 4)], .code b106, none⟩
theorem ok106 : AFOk Tryz.prog ext 106 a106 := .of Tryz.func106 (by kernel_rfl) (by kernel_rfl) (by kernel_rfl) (by kernel_rfl)
/-! 107: (*rowlock/writes.Log).Depth -/
def b107 : AC :=
  (.seq (.reg [⟨(some 2), (.op (.mv (.k (.int .i64 0)))), none⟩])
  (.seq (.seq (.reg [⟨(some 3), (.op (.mv (.t 0))), none⟩, ⟨(some 4), (.op (.eq false .ptr (.t 3) (.k (.pointer none)))), none⟩])
  (.cond (.t 4) (.seq (.reg [⟨(some 2), (.op (.mv (.k (.int .i64 0)))), none⟩])
  .ret)
  .skip))
  (.seq (.reg [⟨(some 5), (.op (.mv (.t 0))), none⟩, ⟨(some 6), (.op (.nilchk (.t 5))), none⟩, ⟨(some 7), (.op (.faddr 1 (.t 6))), none⟩, ⟨(some 8), (.op (.load (.t 7))), none⟩, ⟨(some 2), (.op (.mv (.t 8))), none⟩])
  .ret)))
def a107 : AF := ⟨9, [(.t 2)], .code b107, none⟩
theorem ok107 : AFOk Tryz.prog ext 107 a107 := .of Tryz.func107 (by kernel_rfl) (by kernel_rfl) (by kernel_rfl) (by kernel_rfl)
/-! 108: (*rowlock/tl2.Engine).read -/
def b108 : AC :=
  (.seq (.reg [⟨(some 6), (.op (.alloc 41 [(.bool false), (.int .u64 0), (.bool false), (.int .i64 0), (.bool false), (.int .u8 0), (.int .i64 0)])), none⟩])
  (.seq (.reg [⟨(some 15), (.op (.mv (.t 2))), none⟩, ⟨(some 16), (.op (.nilchk (.t 15))), none⟩, ⟨(some 17), (.op (.faddr 5 (.t 16))), none⟩, ⟨(some 18), (.op (.faddr 1 (.t 17))), none⟩, ⟨(some 19), (.op (.load (.t 18))), none⟩, ⟨(some 7), (.op (.mv (.t 19))), none⟩])
  (.seq (.seq (.reg [⟨(some 21), (.op (.mv (.t 2))), none⟩, ⟨(some 22), (.op (.nilchk (.t 21))), none⟩, ⟨(some 23), (.op (.faddr 1 (.t 22))), none⟩, ⟨(some 24), (.op (.load (.t 23))), none⟩, ⟨(some 25), (.op (.mv (.t 7))), none⟩, ⟨(some 26), (.call (.f 112) [(.t 24), (.t 25)]), none⟩, ⟨(some 20), (.op (.mv (.t 26))), none⟩, ⟨(some 27), (.op (.extract (.t 20) 0)), none⟩, ⟨(some 28), (.op (.extract (.t 20) 1)), none⟩, ⟨(some 8), (.op (.mv (.t 27))), none⟩, ⟨(some 9), (.op (.mv (.t 28))), none⟩])
  (.seq (.reg [⟨(some 29), (.op (.mv (.t 9))), none⟩])
  (.cond (.t 29) (.seq (.reg [⟨(some 30), (.op (.mv (.t 0))), none⟩, ⟨(some 31), (.op (.mv (.t 2))), none⟩, ⟨(some 32), (.op (.mv (.t 8))), none⟩, ⟨(some 33), (.call (.f 150) [(.t 30), (.t 31), (.t 32)]), none⟩, ⟨none, (.op (.store 7 (.t 6) (.t 33))), none⟩])
  .ret)
  .skip)))
  (.seq (.reg [⟨(some 34), (.op (.mv (.t 0))), none⟩, ⟨(some 35), (.op (.nilchk (.t 34))), none⟩, ⟨(some 36), (.op (.faddr 0 (.t 35))), none⟩, ⟨(some 37), (.op (.load (.t 36))), none⟩, ⟨(some 38), (.op (.mv (.t 7))), none⟩, ⟨(some 39), (.call (.f 103) [(.t 37), (.t 38)]), none⟩, ⟨(some 10), (.op (.mv (.t 39))), none⟩])
  (.seq (.reg [⟨(some 41), (.op (.mv (.t 0))), none⟩, ⟨(some 42), (.op (.nilchk (.t 41))), none⟩, ⟨(some 43), (.op (.faddr 0 (.t 42))), none⟩, ⟨(some 44), (.op (.load (.t 43))), none⟩, ⟨(some 45), (.op (.mv (.t 10))), none⟩, ⟨(some 46), (.call (.f 102) [(.t 44), (.t 45)]), none⟩, ⟨(some 40), (.op (.mv (.t 46))), none⟩, ⟨(some 47), (.op (.extract (.t 40) 0)), none⟩, ⟨(some 48), (.op (.extract (.t 40) 1)), none⟩, ⟨(some 11), (.op (.mv (.t 47))), none⟩, ⟨(some 12), (.op (.mv (.t 48))), none⟩])
  (.seq (.reg [⟨(some 49), (.op (.mv (.t 2))), none⟩, ⟨(some 50), (.op (.nilchk (.t 49))), none⟩, ⟨(some 51), (.op (.faddr 10 (.t 50))), none⟩, ⟨(some 52), (.op (.faddr 2 (.t 51))), none⟩, ⟨(some 53), (.op (.load (.t 52))), none⟩, ⟨(some 54), (.op (.bin .add (.t 53) (.k (.int .i64 1)))), none⟩, ⟨(some 55), (.op (.nilchk (.t 49))), none⟩, ⟨(some 56), (.op (.faddr 10 (.t 55))), none⟩, ⟨(some 57), (.op (.faddr 2 (.t 56))), none⟩, ⟨none, (.op (.store 1 (.t 57) (.t 54))), none⟩])
  (.seq (.seq (.reg [⟨(some 58), (.op (.mv (.t 2))), none⟩, ⟨(some 59), (.op (.nilchk (.t 58))), none⟩, ⟨(some 60), (.op (.faddr 10 (.t 59))), none⟩, ⟨(some 61), (.op (.faddr 2 (.t 60))), none⟩, ⟨(some 62), (.op (.load (.t 61))), none⟩])
  (.block 0 (.seq (.reg [⟨(some 64), (.op (.bin .eql (.t 62) (.k (.int .i64 1)))), none⟩, ⟨(some 63), (.op (.mv (.t 64))), none⟩])
  (.cond (.t 63) (.seq (.seq (.reg [⟨(some 66), (.op (.mv (.t 0))), none⟩, ⟨(some 67), (.op (.mv (.t 1))), none⟩, ⟨(some 68), (.op (.mv (.t 10))), none⟩, ⟨(some 69), (.call (.f 151) [(.t 66), (.t 67), (.t 68)]), none⟩, ⟨(some 65), (.op (.mv (.t 69))), none⟩, ⟨(some 70), (.op (.extract (.t 65) 0)), none⟩, ⟨(some 71), (.op (.extract (.t 65) 1)), none⟩, ⟨(some 13), (.op (.alloc 41 [(.bool false), (.int .u64 0), (.bool false), (.int .i64 0), (.bool false), (.int .u8 0), (.int .i64 0)])), none⟩, ⟨none, (.op (.store 7 (.t 13) (.t 70))), none⟩, ⟨(some 14), (.op (.mv (.t 71))), none⟩])
  (.seq (.reg [⟨(some 72), (.op (.mv (.t 14))), none⟩])
  (.cond (.t 72) (.seq (.reg [⟨(some 73), (.op (.mv (.t 2))), none⟩, ⟨(some 74), (.op (.nilchk (.t 73))), none⟩, ⟨(some 75), (.op (.faddr 10 (.t 74))), none⟩, ⟨(some 76), (.op (.faddr 2 (.t 75))), none⟩, ⟨none, (.op (.store 1 (.t 76) (.k (.int .i64 0)))), none⟩])
  (.seq (.reg [⟨(some 77), (.op (.loadN 7 (.t 13))), none⟩, ⟨none, (.op (.store 7 (.t 6) (.t 77))), none⟩])
  .ret))
  .skip)))
  (.seq (.seq (.dreg (.quiet ⟨(some 78), (.op (.mv (.t 0))), none⟩ (.quiet ⟨(some 79), (.op (.nilchk (.t 78))), none⟩ (.quiet ⟨(some 80), (.op (.faddr 0 (.t 79))), none⟩ (.quiet ⟨(some 81), (.op (.load (.t 80))), none⟩ (.quiet ⟨(some 82), (.op (.mv (.t 10))), none⟩ (.quiet ⟨(some 84), (.op (.mv (.t 2))), none⟩ (.quiet ⟨(some 85), (.op (.nilchk (.t 84))), none⟩ (.quiet ⟨(some 86), (.op (.faddr 3 (.t 85))), none⟩ (.quiet ⟨(some 87), (.op (.load (.t 86))), none⟩ (.loud ⟨(some 83), (.call (.f 152) [(.t 81), (.t 82)]), none⟩ [⟨(some 87), (.op (.load (.t 86))), none⟩] (.quiet ⟨(some 88), (.op (.bin .gtr (.t 83) (.t 87))), none⟩ .nil))))))))))))
  (.cond (.t 88) (.seq (.reg [⟨(some 89), (.op (.mv (.t 0))), none⟩, ⟨(some 90), (.op (.mv (.t 1))), none⟩, ⟨(some 91), (.call (.f 56) [(.t 89), (.t 90), (.k (.int .u8 1))]), none⟩, ⟨none, (.op (.store 7 (.t 6) (.t 91))), none⟩])
  .ret)
  .skip))
  (.seq (.reg [⟨(some 92), (.op (.mv (.t 2))), none⟩, ⟨(some 93), (.op (.mv (.t 11))), none⟩, ⟨(some 94), (.op (.nilchk (.t 92))), none⟩, ⟨(some 95), (.op (.faddr 10 (.t 94))), none⟩, ⟨(some 96), (.op (.faddr 0 (.t 95))), none⟩, ⟨none, (.op (.store 1 (.t 96) (.t 93))), none⟩])
  (.seq (.reg [⟨(some 97), (.op (.build [(.bool false), (.int .u64 0), (.bool false), (.int .i64 0), (.bool false), (.int .u8 0), (.int .i64 0)] [])), none⟩, ⟨none, (.op (.store 7 (.t 6) (.t 97))), none⟩])
  .ret))))
  (.seq (.reg [⟨(some 99), (.op (.bin .eql (.t 62) (.k (.int .i64 2)))), none⟩, ⟨(some 98), (.op (.mv (.t 99))), none⟩])
  (.cond (.t 98) (.seq (.reg [⟨(some 100), (.op (.mv (.t 2))), none⟩, ⟨(some 101), (.op (.mv (.t 0))), none⟩, ⟨(some 102), (.op (.nilchk (.t 101))), none⟩, ⟨(some 103), (.op (.faddr 1 (.t 102))), none⟩, ⟨(some 104), (.op (.load (.t 103))), none⟩, ⟨(some 105), (.op (.mv (.t 7))), none⟩, ⟨(some 106), (.op (.iaddrS 1 (.t 104) (.t 105))), none⟩, ⟨(some 107), (.op (.load (.t 106))), none⟩, ⟨(some 108), (.op (.nilchk (.t 100))), none⟩, ⟨(some 109), (.op (.faddr 10 (.t 108))), none⟩, ⟨(some 110), (.op (.faddr 1 (.t 109))), none⟩, ⟨none, (.op (.store 1 (.t 110) (.t 107))), none⟩])
  (.seq (.reg [⟨(some 111), (.op (.build [(.bool false), (.int .u64 0), (.bool false), (.int .i64 0), (.bool false), (.int .u8 0), (.int .i64 0)] [])), none⟩, ⟨none, (.op (.store 7 (.t 6) (.t 111))), none⟩])
  .ret))
  .skip))))))
  (.seq (.seq (.reg [⟨(some 112), (.op (.mv (.t 11))), none⟩, ⟨(some 113), (.op (.mv (.t 2))), none⟩, ⟨(some 114), (.op (.nilchk (.t 113))), none⟩, ⟨(some 115), (.op (.faddr 10 (.t 114))), none⟩, ⟨(some 116), (.op (.faddr 0 (.t 115))), none⟩, ⟨(some 117), (.op (.load (.t 116))), none⟩, ⟨(some 118), (.op (.bin .neq (.t 112) (.t 117))), none⟩])
  (.cond (.t 118) (.seq (.reg [⟨(some 119), (.op (.mv (.t 0))), none⟩, ⟨(some 120), (.op (.mv (.t 1))), none⟩, ⟨(some 121), (.call (.f 56) [(.t 119), (.t 120), (.k (.int .u8 1))]), none⟩, ⟨none, (.op (.store 7 (.t 6) (.t 121))), none⟩])
  .ret)
  .skip))
  (.seq (.seq (.dreg (.quiet ⟨(some 122), (.op (.mv (.t 2))), none⟩ (.quiet ⟨(some 123), (.op (.nilchk (.t 122))), none⟩ (.quiet ⟨(some 124), (.op (.faddr 0 (.t 123))), none⟩ (.quiet ⟨(some 125), (.op (.load (.t 124))), none⟩ (.quiet ⟨(some 126), (.op (.mv (.t 7))), none⟩ (.quiet ⟨(some 127), (.op (.mv (.t 2))), none⟩ (.quiet ⟨(some 128), (.op (.nilchk (.t 127))), none⟩ (.quiet ⟨(some 129), (.op (.faddr 10 (.t 128))), none⟩ (.quiet ⟨(some 130), (.op (.faddr 1 (.t 129))), none⟩ (.quiet ⟨(some 131), (.op (.load (.t 130))), none⟩ (.quiet ⟨(some 132), (.op (.mv (.t 0))), none⟩ (.quiet ⟨(some 133), (.op (.nilchk (.t 132))), none⟩ (.quiet ⟨(some 134), (.op (.faddr 0 (.t 133))), none⟩ (.quiet ⟨(some 135), (.op (.load (.t 134))), none⟩ (.quiet ⟨(some 136), (.op (.mv (.t 10))), none⟩ (.loud ⟨(some 137), (.call (.f 152) [(.t 135), (.t 136)]), none⟩ [⟨(some 131), (.op (.load (.t 130))), none⟩, ⟨(some 125), (.op (.load (.t 124))), none⟩] (.quiet ⟨(some 138), (.op (.build [(.int .i64 0), (.int .u64 0), (.int .u64 0)] [(0, 1, (.t 126)), (1, 1, (.t 131)), (2, 1, (.t 137))])), none⟩ (.loud ⟨(some 139), (.call (.f 153) [(.t 125), (.t 138)]), none⟩ [] (.quiet ⟨(some 140), (.op (.bin .neq (.t 139) (.k (.int .i64 0)))), none⟩ .nil))))))))))))))))))))
  (.cond (.t 140) (.seq (.reg [⟨(some 141), (.op (.mv (.t 0))), none⟩, ⟨(some 142), (.op (.mv (.t 1))), none⟩, ⟨(some 143), (.call (.f 56) [(.t 141), (.t 142), (.k (.int .u8 2))]), none⟩, ⟨none, (.op (.store 7 (.t 6) (.t 143))), none⟩])
  .ret)
  .skip))
  (.seq (.reg [⟨(some 144), (.op (.mv (.t 0))), none⟩, ⟨(some 145), (.op (.mv (.t 2))), none⟩, ⟨(some 146), (.op (.mv (.t 2))), none⟩, ⟨(some 147), (.op (.nilchk (.t 146))), none⟩, ⟨(some 148), (.op (.faddr 10 (.t 147))), none⟩, ⟨(some 149), (.op (.faddr 1 (.t 148))), none⟩, ⟨(some 150), (.op (.load (.t 149))), none⟩, ⟨(some 151), (.call (.f 150) [(.t 144), (.t 145), (.t 150)]), none⟩, ⟨none, (.op (.store 7 (.t 6) (.t 151))), none⟩])
  .ret))))))))))
def a108 : AF := ⟨152, [(.c 6 true 7)], .code b108, none⟩
theorem ok108 : AFOk Tryz.prog ext 108 a108 := .of Tryz.func108 (by kernel_rfl) (by kernel_rfl) (by kernel_rfl) (by kernel_rfl)
/-! 109: (*rowlock/tl2.Engine).goOn -/
def b109 : AC :=
  (.seq (.reg [⟨(some 6), (.op (.alloc 41 [(.bool false), (.int .u64 0), (.bool false), (.int .i64 0), (.bool false), (.int .u8 0), (.int .i64 0)])), none⟩])
  (.seq (.seq (.reg [⟨(some 9), (.op (.mv (.t 2))), none⟩, ⟨(some 10), (.op (.nilchk (.t 9))), none⟩, ⟨(some 11), (.op (.faddr 8 (.t 10))), none⟩, ⟨(some 12), (.op (.load (.t 11))), none⟩])
  (.block 0 (.seq (.reg [⟨(some 14), (.op (.bin .eql (.t 12) (.k (.int .i64 1)))), none⟩, ⟨(some 13), (.op (.mv (.t 14))), none⟩])
  (.cond (.t 13) (.seq (.reg [⟨(some 15), (.op (.mv (.t 0))), none⟩, ⟨(some 16), (.op (.mv (.t 1))), none⟩, ⟨(some 17), (.op (.mv (.t 2))), none⟩, ⟨(some 18), (.call (.f 154) [(.t 15), (.t 16), (.t 17)]), none⟩, ⟨none, (.op (.store 7 (.t 6) (.t 18))), none⟩])
  .ret)
  (.seq (.reg [⟨(some 20), (.op (.bin .eql (.t 12) (.k (.int .i64 2)))), none⟩, ⟨(some 19), (.op (.mv (.t 20))), none⟩])
  (.cond (.t 19) (.seq (.reg [⟨(some 21), (.op (.mv (.t 0))), none⟩, ⟨(some 22), (.op (.mv (.t 1))), none⟩, ⟨(some 23), (.op (.mv (.t 2))), none⟩, ⟨(some 24), (.call (.f 155) [(.t 21), (.t 22), (.t 23)]), none⟩, ⟨none, (.op (.store 7 (.t 6) (.t 24))), none⟩])
  .ret)
  (.seq (.reg [⟨(some 26), (.op (.bin .eql (.t 12) (.k (.int .i64 3)))), none⟩, ⟨(some 25), (.op (.mv (.t 26))), none⟩])
  (.cond (.t 25) (.seq (.reg [⟨(some 27), (.op (.mv (.t 2))), none⟩, ⟨(some 28), (.op (.nilchk (.t 27))), none⟩, ⟨(some 29), (.op (.faddr 1 (.t 28))), none⟩, ⟨(some 30), (.op (.load (.t 29))), none⟩, ⟨(some 31), (.call (.f 55) [(.t 30)]), none⟩, ⟨(some 7), (.op (.mv (.t 31))), none⟩])
  (.seq (.dreg (.quiet ⟨(some 32), (.op (.mv (.t 0))), none⟩ (.quiet ⟨(some 33), (.op (.nilchk (.t 32))), none⟩ (.quiet ⟨(some 34), (.op (.faddr 1 (.t 33))), none⟩ (.quiet ⟨(some 35), (.op (.load (.t 34))), none⟩ (.quiet ⟨(some 36), (.op (.mv (.t 7))), none⟩ (.quiet ⟨(some 37), (.op (.mv (.t 2))), none⟩ (.quiet ⟨(some 38), (.op (.nilchk (.t 37))), none⟩ (.quiet ⟨(some 39), (.op (.faddr 9 (.t 38))), none⟩ (.quiet ⟨(some 40), (.op (.load (.t 39))), none⟩ (.quiet ⟨(some 41), (.op (.iaddrS 2 (.t 36) (.t 40))), none⟩ (.quiet ⟨(some 42), (.op (.faddr 0 (.t 41))), none⟩ (.quiet ⟨(some 43), (.op (.load (.t 42))), none⟩ (.quiet ⟨(some 44), (.op (.mv (.t 7))), none⟩ (.quiet ⟨(some 45), (.op (.mv (.t 2))), none⟩ (.quiet ⟨(some 46), (.op (.nilchk (.t 45))), none⟩ (.quiet ⟨(some 47), (.op (.faddr 9 (.t 46))), none⟩ (.quiet ⟨(some 48), (.op (.load (.t 47))), none⟩ (.quiet ⟨(some 49), (.op (.iaddrS 2 (.t 44) (.t 48))), none⟩ (.quiet ⟨(some 50), (.op (.faddr 1 (.t 49))), none⟩ (.quiet ⟨(some 51), (.op (.load (.t 50))), none⟩ (.quiet ⟨(some 52), (.op (.iaddrS 1 (.t 35) (.t 43))), none⟩ (.loud ⟨none, (.op (.store 1 (.t 52) (.t 51))), none⟩ [] .nil)))))))))))))))))))))))
  (.seq (.seq (.reg [⟨(some 53), (.op (.mv (.t 2))), none⟩, ⟨(some 54), (.op (.nilchk (.t 53))), none⟩, ⟨(some 55), (.op (.faddr 9 (.t 54))), none⟩, ⟨(some 56), (.op (.load (.t 55))), none⟩, ⟨(some 57), (.op (.bin .add (.t 56) (.k (.int .i64 1)))), none⟩, ⟨(some 58), (.op (.nilchk (.t 53))), none⟩, ⟨(some 59), (.op (.faddr 9 (.t 58))), none⟩, ⟨none, (.op (.store 1 (.t 59) (.t 57))), none⟩])
  (.seq (.reg [⟨(some 60), (.op (.mv (.t 2))), none⟩, ⟨(some 61), (.op (.nilchk (.t 60))), none⟩, ⟨(some 62), (.op (.faddr 9 (.t 61))), none⟩, ⟨(some 63), (.op (.load (.t 62))), none⟩, ⟨(some 64), (.op (.mv (.t 7))), none⟩, ⟨(some 65), (.op (.lenS (.t 64))), none⟩, ⟨(some 66), (.op (.bin .eql (.t 63) (.t 65))), none⟩])
  (.cond (.t 66) (.reg [⟨(some 67), (.op (.mv (.t 2))), none⟩, ⟨(some 68), (.op (.nilchk (.t 67))), none⟩, ⟨(some 69), (.op (.faddr 8 (.t 68))), none⟩, ⟨none, (.op (.store 1 (.t 69) (.k (.int .i64 4)))), none⟩])
  .skip)))
  (.seq (.reg [⟨(some 70), (.op (.build [(.bool false), (.int .u64 0), (.bool false), (.int .i64 0), (.bool false), (.int .u8 0), (.int .i64 0)] [])), none⟩, ⟨none, (.op (.store 7 (.t 6) (.t 70))), none⟩])
  .ret))))
  (.seq (.reg [⟨(some 72), (.op (.bin .eql (.t 12) (.k (.int .i64 4)))), none⟩, ⟨(some 71), (.op (.mv (.t 72))), none⟩])
  (.cond (.t 71) (.seq (.reg [⟨(some 73), (.op (.mv (.t 0))), none⟩, ⟨(some 74), (.op (.nilchk (.t 73))), none⟩, ⟨(some 75), (.op (.faddr 0 (.t 74))), none⟩, ⟨(some 76), (.op (.load (.t 75))), none⟩, ⟨(some 77), (.op (.mv (.t 1))), none⟩, ⟨(some 78), (.call (.f 58) [(.t 76), (.t 77)]), none⟩, ⟨(some 8), (.op (.mv (.t 78))), none⟩])
  (.seq (.dreg (.quiet ⟨(some 79), (.op (.mv (.t 0))), none⟩ (.quiet ⟨(some 80), (.op (.nilchk (.t 79))), none⟩ (.quiet ⟨(some 81), (.op (.faddr 0 (.t 80))), none⟩ (.quiet ⟨(some 82), (.op (.load (.t 81))), none⟩ (.quiet ⟨(some 83), (.op (.mv (.t 1))), none⟩ (.quiet ⟨(some 84), (.op (.mv (.t 8))), none⟩ (.quiet ⟨(some 85), (.op (.iaddrS 1 (.t 84) (.k (.int .i64 0)))), none⟩ (.quiet ⟨(some 86), (.op (.load (.t 85))), none⟩ (.quiet ⟨(some 87), (.op (.mv (.t 2))), none⟩ (.quiet ⟨(some 88), (.op (.nilchk (.t 87))), none⟩ (.quiet ⟨(some 89), (.op (.faddr 4 (.t 88))), none⟩ (.quiet ⟨(some 90), (.op (.load (.t 89))), none⟩ (.loud ⟨(some 91), (.call (.f 156) [(.t 82), (.t 83), (.t 86), (.t 90)]), none⟩ [] .nil))))))))))))))
  (.seq (.seq (.reg [⟨(some 92), (.op (.mv (.t 8))), none⟩, ⟨(some 93), (.op (.lenS (.t 92))), none⟩, ⟨(some 94), (.op (.bin .eql (.t 93) (.k (.int .i64 1)))), none⟩])
  (.cond (.t 94) (.seq (.reg [⟨(some 95), (.op (.mv (.t 0))), none⟩, ⟨(some 96), (.op (.mv (.t 1))), none⟩, ⟨(some 97), (.call (.f 157) [(.t 95), (.t 96)]), none⟩, ⟨none, (.op (.store 7 (.t 6) (.t 97))), none⟩])
  .ret)
  .skip))
  (.seq (.reg [⟨(some 98), (.op (.build [(.bool false), (.int .u64 0), (.bool false), (.int .i64 0), (.bool false), (.int .u8 0), (.int .i64 0)] [])), none⟩, ⟨none, (.op (.store 7 (.t 6) (.t 98))), none⟩])
  .ret))))
  .skip))))))))))
  (.seq (.reg [⟨(some 99), (.op (.mv (.t 0))), none⟩, ⟨(some 100), (.op (.mv (.t 2))), none⟩, ⟨(some 101), (.op (.build [(.int .i64 0), (.int .u64 0)] [])), none⟩, ⟨(some 102), (.call (.f 50) [(.t 99), (.k (.int .u8 7)), (.t 100), (.t 101)]), none⟩])
  (.seq (.seq (.reg [⟨(some 103), (.op (.mv (.t 2))), none⟩, ⟨(some 104), (.op (.nilchk (.t 103))), none⟩, ⟨(some 105), (.op (.faddr 1 (.t 104))), none⟩, ⟨(some 106), (.op (.load (.t 105))), none⟩, ⟨(some 107), (.call (.f 55) [(.t 106)]), none⟩, ⟨(some 108), (.op (.lenS (.t 107))), none⟩, ⟨(some 109), (.op (.bin .eql (.t 108) (.k (.int .i64 0)))), none⟩])
  (.cond (.t 109) (.seq (.reg [⟨(some 110), (.op (.mv (.t 0))), none⟩, ⟨(some 111), (.op (.mv (.t 1))), none⟩, ⟨(some 112), (.call (.f 157) [(.t 110), (.t 111)]), none⟩, ⟨none, (.op (.store 7 (.t 6) (.t 112))), none⟩])
  .ret)
  .skip))
  (.seq (.reg [⟨(some 113), (.op (.mv (.t 2))), none⟩, ⟨(some 114), (.op (.nilchk (.t 113))), none⟩, ⟨(some 115), (.op (.faddr 8 (.t 114))), none⟩, ⟨none, (.op (.store 1 (.t 115) (.k (.int .i64 1)))), none⟩])
  (.seq (.reg [⟨(some 116), (.op (.build [(.bool false), (.int .u64 0), (.bool false), (.int .i64 0), (.bool false), (.int .u8 0), (.int .i64 0)] [])), none⟩, ⟨none, (.op (.store 7 (.t 6) (.t 116))), none⟩])
  .ret))))))
def a109 : AF := ⟨117, [(.c 6 true 7)], .code b109, none⟩
theorem ok109 : AFOk Tryz.prog ext 109 a109 := .of Tryz.func109 (by kernel_rfl) (by kernel_rfl) (by kernel_rfl) (by kernel_rfl)
/-! 110: (*rowlock/tl2.Engine).abort -/
def b110 : AC :=
  (.seq (.reg [⟨(some 6), (.op (.alloc 41 [(.bool false), (.int .u64 0), (.bool false), (.int .i64 0), (.bool false), (.int .u8 0), (.int .i64 0)])), none⟩])
  (.seq (.reg [⟨(some 7), (.op (.mv (.t 0))), none⟩, ⟨(some 8), (.op (.mv (.t 1))), none⟩, ⟨(some 9), (.call (.f 56) [(.t 7), (.t 8), (.k (.int .u8 4))]), none⟩, ⟨none, (.op (.store 7 (.t 6) (.t 9))), none⟩])
  .ret))
def a110 : AF := ⟨10, [(.c 6 true 7)], .code b110, none⟩
theorem ok110 : AFOk Tryz.prog ext 110 a110 := .of Tryz.func110 (by kernel_rfl) (by kernel_rfl) (by kernel_rfl) (by kernel_rfl)
/-! 111: (*rowlock/tl2.Engine).turn -/
def b111 : AC :=
  (.seq (.reg [⟨(some 6), (.op (.alloc 41 [(.bool false), (.int .u64 0), (.bool false), (.int .i64 0), (.bool false), (.int .u8 0), (.int .i64 0)])), none⟩])
  (.seq (.reg [⟨(some 9), (.op (.build [(.int .i64 0), (.int .u64 0)] [])), none⟩, ⟨(some 7), (.op (.alloc 104 [(.int .i64 0), (.int .u64 0)])), none⟩, ⟨none, (.op (.store 2 (.t 7) (.t 9))), none⟩])
  (.seq (.reg [⟨(some 8), (.op (.mv (.k (.int .u8 3)))), none⟩])
  (.seq (.seq (.reg [⟨(some 10), (.op (.mv (.t 2))), none⟩, ⟨(some 11), (.op (.nilchk (.t 10))), none⟩, ⟨(some 12), (.op (.faddr 5 (.t 11))), none⟩, ⟨(some 13), (.op (.faddr 0 (.t 12))), none⟩, ⟨(some 14), (.op (.load (.t 13))), none⟩])
  (.block 0 (.seq (.reg [⟨(some 40), (.op (.bin .eql (.t 14) (.k (.int .u8 3)))), none⟩, ⟨(some 39), (.op (.mv (.t 40))), none⟩])
  (.cond (.t 39) (.seq (.reg [⟨(some 41), (.op (.mv (.t 2))), none⟩, ⟨(some 42), (.op (.nilchk (.t 41))), none⟩, ⟨(some 43), (.op (.faddr 1 (.t 42))), none⟩, ⟨(some 44), (.op (.load (.t 43))), none⟩, ⟨(some 45), (.call (.f 158) [(.t 44)]), none⟩])
  (.reg [⟨(some 8), (.op (.mv (.k (.int .u8 4)))), none⟩]))
  (.seq (.reg [⟨(some 47), (.op (.bin .eql (.t 14) (.k (.int .u8 4)))), none⟩, ⟨(some 46), (.op (.mv (.t 47))), none⟩])
  (.cond (.t 46) (.seq (.reg [⟨(some 48), (.op (.mv (.t 2))), none⟩, ⟨(some 49), (.op (.nilchk (.t 48))), none⟩, ⟨(some 50), (.op (.faddr 1 (.t 49))), none⟩, ⟨(some 51), (.op (.load (.t 50))), none⟩, ⟨(some 52), (.call (.f 159) [(.t 51)]), none⟩])
  (.reg [⟨(some 8), (.op (.mv (.k (.int .u8 5)))), none⟩]))
  (.seq (.reg [⟨(some 54), (.op (.bin .eql (.t 14) (.k (.int .u8 5)))), none⟩, ⟨(some 53), (.op (.mv (.t 54))), none⟩])
  (.cond (.t 53) (.seq (.reg [⟨(some 55), (.op (.mv (.t 2))), none⟩, ⟨(some 56), (.op (.nilchk (.t 55))), none⟩, ⟨(some 57), (.op (.faddr 1 (.t 56))), none⟩, ⟨(some 58), (.op (.load (.t 57))), none⟩, ⟨(some 59), (.call (.f 160) [(.t 58)]), none⟩])
  (.reg [⟨(some 8), (.op (.mv (.k (.int .u8 6)))), none⟩]))
  (.seq (.dreg (.quiet ⟨(some 15), (.op (.mv (.t 2))), none⟩ (.quiet ⟨(some 16), (.op (.nilchk (.t 15))), none⟩ (.quiet ⟨(some 17), (.op (.faddr 5 (.t 16))), none⟩ (.quiet ⟨(some 18), (.op (.faddr 1 (.t 17))), none⟩ (.quiet ⟨(some 19), (.op (.load (.t 18))), none⟩ (.quiet ⟨(some 20), (.op (.mv (.t 2))), none⟩ (.quiet ⟨(some 21), (.op (.nilchk (.t 20))), none⟩ (.quiet ⟨(some 22), (.op (.faddr 5 (.t 21))), none⟩ (.quiet ⟨(some 23), (.op (.faddr 2 (.t 22))), none⟩ (.quiet ⟨(some 24), (.op (.load (.t 23))), none⟩ (.quiet ⟨(some 25), (.op (.build [(.int .i64 0), (.int .u64 0)] [(0, 1, (.t 19)), (1, 1, (.t 24))])), none⟩ (.loud ⟨none, (.op (.store 2 (.t 7) (.t 25))), none⟩ [] .nil)))))))))))))
  (.seq (.dreg (.quiet ⟨(some 26), (.op (.mv (.t 2))), none⟩ (.quiet ⟨(some 27), (.op (.nilchk (.t 26))), none⟩ (.quiet ⟨(some 28), (.op (.faddr 1 (.t 27))), none⟩ (.quiet ⟨(some 29), (.op (.load (.t 28))), none⟩ (.quiet ⟨(some 30), (.op (.faddr 0 (.t 7))), none⟩ (.quiet ⟨(some 31), (.op (.load (.t 30))), none⟩ (.quiet ⟨(some 32), (.op (.faddr 1 (.t 7))), none⟩ (.quiet ⟨(some 33), (.op (.load (.t 32))), none⟩ (.loud ⟨(some 34), (.call (.f 161) [(.t 29), (.t 31), (.t 33)]), none⟩ [] (.quiet ⟨(some 35), (.op (.bin .neq (.t 34) (.k (.int .i64 0)))), none⟩ .nil)))))))))))
  (.cond (.t 35) (.seq (.reg [⟨(some 36), (.op (.mv (.t 0))), none⟩, ⟨(some 37), (.op (.mv (.t 1))), none⟩, ⟨(some 38), (.call (.f 56) [(.t 36), (.t 37), (.k (.int .u8 2))]), none⟩, ⟨none, (.op (.store 7 (.t 6) (.t 38))), none⟩])
  .ret)
  .skip)))))))))))
  (.seq (.reg [⟨(some 60), (.op (.mv (.t 0))), none⟩, ⟨(some 61), (.op (.mv (.t 8))), none⟩, ⟨(some 62), (.op (.mv (.t 2))), none⟩, ⟨(some 63), (.op (.loadN 2 (.t 7))), none⟩, ⟨(some 64), (.call (.f 50) [(.t 60), (.t 61), (.t 62), (.t 63)]), none⟩])
  (.seq (.reg [⟨(some 65), (.op (.mv (.t 2))), none⟩, ⟨(some 66), (.call (.f 162) [(.t 65)]), none⟩])
  (.seq (.reg [⟨(some 67), (.op (.build [(.bool false), (.int .u64 0), (.bool false), (.int .i64 0), (.bool false), (.int .u8 0), (.int .i64 0)] [(0, 1, (.k (.bool true)))])), none⟩, ⟨none, (.op (.store 7 (.t 6) (.t 67))), none⟩])
  .ret)))))))
def a111 : AF := ⟨68, [(.c 6 true 7)], .code b111, none⟩
theorem ok111 : AFOk Tryz.prog ext 111 a111 := .of Tryz.func111 (by kernel_rfl) (by kernel_rfl) (by kernel_rfl) (by kernel_rfl)
/-! 112: (*rowlock/writes.Log).Get -/
def b112 : AC :=
  (.seq (.reg [⟨(some 3), (.op (.box 3 (.t 1))), none⟩, ⟨(some 4), (.op (.alloc 30 [(.int .u64 0)])), none⟩, ⟨(some 5), (.op (.alloc 4 [(.bool false)])), none⟩])
  (.seq (.seq (.reg [⟨(some 9), (.op (.mv (.t 0))), none⟩, ⟨(some 10), (.op (.eq false .ptr (.t 9) (.k (.pointer none)))), none⟩])
  (.cond (.t 10) (.seq (.reg [⟨none, (.op (.store 1 (.t 4) (.k (.int .u64 0)))), none⟩, ⟨none, (.op (.store 1 (.t 5) (.k (.bool false)))), none⟩])
  .ret)
  .skip))
  (.seq (.seq (.reg [⟨(some 11), (.op (.mv (.t 0))), none⟩, ⟨(some 12), (.op (.nilchk (.t 11))), none⟩, ⟨(some 13), (.op (.faddr 0 (.t 12))), none⟩, ⟨(some 14), (.op (.load (.t 13))), none⟩, ⟨(some 15), (.call (.f 163) [(.t 14)]), none⟩])
  (.block 0 (.rfunc (.t 15) [16] (.reg [⟨(some 6), (.op (.mv (.t 16))), none⟩])
   (.block 1 (.seq (.reg [⟨(some 18), (.op (.mv (.t 6))), none⟩, ⟨(some 19), (.op (.load (.t 3))), none⟩, ⟨(some 20), (.call (.f 164) [(.t 18), (.t 19)]), none⟩, ⟨(some 17), (.op (.mv (.t 20))), none⟩, ⟨(some 21), (.op (.extract (.t 17) 0)), none⟩, ⟨(some 22), (.op (.extract (.t 17) 1)), none⟩, ⟨(some 7), (.op (.mv (.t 21))), none⟩, ⟨(some 8), (.op (.mv (.t 22))), none⟩])
   (.seq (.reg [⟨(some 23), (.op (.mv (.t 8))), none⟩])
   (.cond (.t 23) (.seq (.reg [⟨(some 24), (.op (.mv (.t 7))), none⟩, ⟨none, (.op (.store 1 (.t 4) (.t 24))), none⟩, ⟨none, (.op (.store 1 (.t 5) (.k (.bool true)))), none⟩])
   .ret)
   .skip)))))))
  (.seq (.reg [⟨none, (.op (.store 1 (.t 4) (.k (.int .u64 0)))), none⟩, ⟨none, (.op (.store 1 (.t 5) (.k (.bool false)))), none⟩])
  .ret))))
def a112 : AF := ⟨25, [(.c 4 false 1), (.c 5 false 1)], .code b112, none⟩
theorem ok112 : AFOk Tryz.prog ext 112 a112 := .of Tryz.func112 (by kernel_rfl) (by kernel_rfl) (by kernel_rfl) (by kernel_rfl)
/-! 113: (*rowlock/stripes.Table).Drop -/
def b113 : AC :=
  (.seq (.reg [⟨(some 4), (.op (.mv (.k (.int .i64 0)))), none⟩])
  (.seq (.reg [⟨(some 8), (.op (.mv (.t 0))), none⟩, ⟨(some 9), (.op (.mv (.t 1))), none⟩, ⟨(some 10), (.call (.f 58) [(.t 8), (.t 9)]), none⟩, ⟨(some 5), (.op (.mv (.t 10))), none⟩])
  (.seq (.seq (.reg [⟨(some 11), (.op (.mv (.t 5))), none⟩, ⟨(some 12), (.op (.lenS (.t 11))), none⟩, ⟨(some 13), (.op (.mv (.k (.int .i64 0)))), none⟩])
  (.block 0 (.loop (.seq (.reg [⟨(some 14), (.op (.bin .lss (.t 13) (.t 12))), none⟩])
   (.seq (.cond (.t 14) .skip
   (.exit 0))
   (.seq (.block 1 (.seq (.reg [⟨(some 15), (.op (.iaddrS 1 (.t 11) (.t 13))), none⟩, ⟨(some 16), (.op (.load (.t 15))), none⟩, ⟨(some 7), (.op (.mv (.t 16))), none⟩])
   (.reg [⟨(some 17), (.op (.mv (.t 0))), none⟩, ⟨(some 18), (.op (.mv (.t 1))), none⟩, ⟨(some 19), (.op (.mv (.t 7))), none⟩, ⟨(some 20), (.call (.f 165) [(.t 17), (.t 18), (.t 19)]), none⟩])))
   (.reg [⟨(some 21), (.op (.bin .add (.t 13) (.k (.int .i64 1)))), none⟩, ⟨(some 13), (.op (.mv (.t 21))), none⟩])))))))
  (.seq (.reg [⟨(some 22), (.op (.mv (.t 5))), none⟩, ⟨(some 23), (.op (.lenS (.t 22))), none⟩, ⟨(some 4), (.op (.mv (.t 23))), none⟩])
  .ret))))
def a113 : AF := ⟨24, [(.t 4)], .code b113, none⟩
theorem ok113 : AFOk Tryz.prog ext 113 a113 := .of Tryz.func113 (by kernel_rfl) (by kernel_rfl) (by kernel_rfl) (by kernel_rfl)
end YtapbabkndhaemaaGreat
end Go.Proofs
