/-
  THE FUNCTIONS of this seat in their plain form, and that each is the loaded one's.
-/
import Derived.Test.YtnemoimbeefngaaGreatProg
import Derived.Test.YtnemoimbeefngaaGreatPA2
import Derived.Laws.Externs
namespace Go.Proofs
namespace YtnemoimbeefngaaGreat
open Go.Abs

def ext : FuncId → Option Ext1 := fun g => if g = 149 then some .frombits else none
/-! 2: gosem.cut.init -/
def b2 : AC :=
  (.reg [⟨(some 0), (.call (.f 1) []), none⟩])
def a2 : AF := ⟨1, [], .code b2, none⟩
theorem ok2 : AFOk Tryz.prog ext 2 a2 := .of Tryz.func2 (by kernel_rfl) (by kernel_rfl) (by kernel_rfl) (by kernel_rfl)
/-! 3: rowlock/rowlocklaw11.NorecOpaque -/
def b3 : AC :=
  (.seq (.reg [⟨(some 2), (.op (.mv (.k (.bool false)))), none⟩])
  (.seq (.reg [⟨(some 6), (.op (.mv (.t 0))), none⟩, ⟨(some 7), (.call (.f 8) [(.t 6)]), none⟩, ⟨(some 3), (.op (.mv (.t 7))), none⟩])
  (.seq (.seq (.reg [⟨(some 8), (.call (.f 9) []), none⟩, ⟨(some 9), (.op (.un .not (.t 8))), none⟩, ⟨(some 10), (.op (.mv (.t 9))), none⟩, ⟨(some 11), (.op (.mv (.t 3))), (some (10, false))⟩, ⟨(some 12), (.op (.eq false .ptr (.t 11) (.k (.pointer none)))), (some (10, false))⟩, ⟨(some 13), (.op (.pick (.t 10) (.k (.bool true)) (.t 12))), none⟩])
  (.cond (.t 13) (.seq (.reg [⟨(some 2), (.op (.mv (.k (.bool false)))), none⟩])
  .ret)
  .skip))
  (.seq (.reg [⟨(some 15), (.op (.mv (.t 3))), none⟩, ⟨(some 16), (.call (.f 11) [(.t 15)]), none⟩, ⟨(some 17), (.call (.f 12) []), none⟩, ⟨(some 18), (.op (.mv (.t 3))), none⟩, ⟨(some 19), (.call (.f 13) [(.t 18)]), none⟩, ⟨(some 20), (.op (.mv (.t 3))), none⟩, ⟨(some 21), (.call (.f 14) [(.t 20)]), none⟩, ⟨(some 22), (.call (.f 10) [(.t 16), (.t 17), (.t 19), (.t 21)]), none⟩, ⟨(some 14), (.op (.mv (.t 22))), none⟩, ⟨(some 23), (.op (.extract (.t 14) 0)), none⟩, ⟨(some 24), (.op (.extract (.t 14) 1)), none⟩, ⟨(some 4), (.op (.mv (.t 23))), none⟩, ⟨(some 5), (.op (.mv (.t 24))), none⟩])
  (.seq (.reg [⟨(some 25), (.op (.mv (.t 5))), none⟩, ⟨(some 26), (.op (.bin .eql (.t 25) (.k (.int .i64 0)))), none⟩, ⟨(some 2), (.op (.mv (.t 26))), none⟩])
  .ret)))))
def a3 : AF := ⟨27, [(.t 2)], .code b3, none⟩
theorem ok3 : AFOk Tryz.prog ext 3 a3 := .of Tryz.func3 (by kernel_rfl) (by kernel_rfl) (by kernel_rfl) (by kernel_rfl)
/-! 7: rowlock/rowlocklaw11.NorecNone -/
def b7 : AC :=
  (.seq (.reg [⟨(some 3), (.op (.box 53 (.t 0))), none⟩, ⟨(some 6), (.op (.mv (.k (.bool false)))), none⟩])
  (.seq (.reg [⟨(some 7), (.op (.mv (.k (.pointer none)))), none⟩])
  (.seq (.reg [⟨(some 15), (.op (.mv (.t 7))), none⟩, ⟨(some 16), (.op (.faddr 1 (.t 3))), none⟩, ⟨(some 17), (.op (.load (.t 16))), none⟩, ⟨(some 18), (.call (.f 24) [(.t 15), (.t 17)]), none⟩, ⟨(some 14), (.op (.mv (.t 18))), none⟩, ⟨(some 19), (.op (.extract (.t 14) 0)), none⟩, ⟨(some 20), (.op (.extract (.t 14) 1)), none⟩, ⟨(some 8), (.op (.mv (.t 19))), none⟩, ⟨(some 9), (.op (.mv (.t 20))), none⟩])
  (.seq (.reg [⟨(some 22), (.op (.mv (.t 7))), none⟩, ⟨(some 23), (.op (.faddr 1 (.t 3))), none⟩, ⟨(some 24), (.op (.load (.t 23))), none⟩, ⟨(some 25), (.call (.f 25) [(.t 22), (.t 24)]), none⟩, ⟨(some 21), (.op (.mv (.t 25))), none⟩, ⟨(some 26), (.op (.extract (.t 21) 0)), none⟩, ⟨(some 27), (.op (.extract (.t 21) 1)), none⟩, ⟨(some 10), (.op (.mv (.t 26))), none⟩, ⟨(some 11), (.op (.mv (.t 27))), none⟩])
  (.seq (.reg [⟨(some 29), (.op (.mv (.t 7))), none⟩, ⟨(some 30), (.op (.faddr 1 (.t 3))), none⟩, ⟨(some 31), (.op (.load (.t 30))), none⟩, ⟨(some 32), (.call (.f 26) [(.t 29), (.t 31)]), none⟩, ⟨(some 28), (.op (.mv (.t 32))), none⟩, ⟨(some 33), (.op (.extract (.t 28) 0)), none⟩, ⟨(some 34), (.op (.extract (.t 28) 1)), none⟩, ⟨(some 12), (.op (.alloc 51 [(.int .u8 0), (.int .i64 0), (.int .u64 0)])), none⟩, ⟨none, (.op (.store 3 (.t 12) (.t 33))), none⟩, ⟨(some 13), (.op (.mv (.t 34))), none⟩])
  (.seq (.reg [⟨(some 35), (.call (.f 9) []), none⟩, ⟨(some 36), (.op (.mv (.t 35))), none⟩, ⟨(some 37), (.op (.mv (.t 8))), (some (36, true))⟩, ⟨(some 38), (.op (.bin .eql (.t 37) (.k (.int .i64 0)))), (some (36, true))⟩, ⟨(some 39), (.op (.pick (.t 36) (.t 38) (.k (.bool false)))), none⟩, ⟨(some 40), (.op (.mv (.t 39))), none⟩, ⟨(some 41), (.op (.mv (.t 9))), (some (40, true))⟩, ⟨(some 42), (.op (.bin .eql (.t 41) (.k (.int .i64 1)))), (some (40, true))⟩, ⟨(some 43), (.op (.pick (.t 40) (.t 42) (.k (.bool false)))), none⟩, ⟨(some 44), (.op (.mv (.t 43))), none⟩, ⟨(some 45), (.op (.mv (.t 7))), (some (44, true))⟩, ⟨(some 46), (.op (.faddr 1 (.t 3))), (some (44, true))⟩, ⟨(some 47), (.op (.load (.t 46))), (some (44, true))⟩, ⟨(some 48), (.op (.faddr 2 (.t 3))), (some (44, true))⟩, ⟨(some 49), (.op (.loadN 3 (.t 48))), (some (44, true))⟩, ⟨(some 50), (.call (.f 27) [(.t 45), (.t 47), (.t 49)]), (some (44, true))⟩, ⟨(some 51), (.op (.bin .eql (.t 50) (.k (.int .i64 1)))), (some (44, true))⟩, ⟨(some 52), (.op (.pick (.t 44) (.t 51) (.k (.bool false)))), none⟩, ⟨(some 53), (.op (.mv (.t 52))), none⟩, ⟨(some 54), (.op (.mv (.t 7))), (some (53, true))⟩, ⟨(some 55), (.op (.faddr 1 (.t 3))), (some (53, true))⟩, ⟨(some 56), (.op (.load (.t 55))), (some (53, true))⟩, ⟨(some 57), (.call (.f 28) [(.t 54), (.t 56)]), (some (53, true))⟩, ⟨(some 58), (.op (.build [(.bool false), (.int .u64 0), (.bool false), (.int .i64 0), (.bool false), (.int .u8 0), (.int .i64 0)] [(6, 1, (.k (.int .i64 1)))])), (some (53, true))⟩, ⟨(some 59), (.op (.eq false (.st [(0, 1, false, .bool), (1, 1, false, .int), (2, 1, false, .bool), (3, 1, false, .int), (4, 1, false, .bool), (5, 1, false, .int), (6, 1, false, .int)]) (.t 57) (.t 58))), (some (53, true))⟩, ⟨(some 60), (.op (.pick (.t 53) (.t 59) (.k (.bool false)))), none⟩, ⟨(some 61), (.op (.mv (.t 60))), none⟩, ⟨(some 62), (.op (.mv (.t 7))), (some (61, true))⟩, ⟨(some 63), (.op (.faddr 1 (.t 3))), (some (61, true))⟩, ⟨(some 64), (.op (.load (.t 63))), (some (61, true))⟩, ⟨(some 65), (.call (.f 29) [(.t 62), (.t 64)]), (some (61, true))⟩, ⟨(some 66), (.op (.bin .eql (.t 65) (.k (.int .i64 1)))), (some (61, true))⟩, ⟨(some 67), (.op (.pick (.t 61) (.t 66) (.k (.bool false)))), none⟩, ⟨(some 68), (.op (.mv (.t 67))), none⟩, ⟨(some 69), (.op (.mv (.t 7))), (some (68, true))⟩, ⟨(some 70), (.call (.f 16) [(.t 69)]), (some (68, true))⟩, ⟨(some 71), (.op (.lenS (.t 70))), (some (68, true))⟩, ⟨(some 72), (.op (.bin .eql (.t 71) (.k (.int .i64 0)))), (some (68, true))⟩, ⟨(some 73), (.op (.pick (.t 68) (.t 72) (.k (.bool false)))), none⟩, ⟨(some 74), (.op (.mv (.t 73))), none⟩, ⟨(some 75), (.op (.mv (.t 7))), (some (74, true))⟩, ⟨(some 76), (.call (.f 11) [(.t 75)]), (some (74, true))⟩, ⟨(some 77), (.op (.lenS (.t 76))), (some (74, true))⟩, ⟨(some 78), (.op (.bin .eql (.t 77) (.k (.int .i64 0)))), (some (74, true))⟩, ⟨(some 79), (.op (.pick (.t 74) (.t 78) (.k (.bool false)))), none⟩, ⟨(some 80), (.op (.mv (.t 79))), none⟩, ⟨(some 81), (.op (.mv (.t 7))), (some (80, true))⟩, ⟨(some 82), (.call (.f 13) [(.t 81)]), (some (80, true))⟩, ⟨(some 83), (.op (.lenS (.t 82))), (some (80, true))⟩, ⟨(some 84), (.op (.bin .eql (.t 83) (.k (.int .i64 0)))), (some (80, true))⟩, ⟨(some 85), (.op (.pick (.t 80) (.t 84) (.k (.bool false)))), none⟩, ⟨(some 86), (.op (.mv (.t 85))), none⟩, ⟨(some 87), (.op (.mv (.t 7))), (some (86, true))⟩, ⟨(some 88), (.call (.f 14) [(.t 87)]), (some (86, true))⟩, ⟨(some 89), (.op (.lenS (.t 88))), (some (86, true))⟩, ⟨(some 90), (.op (.bin .eql (.t 89) (.k (.int .i64 0)))), (some (86, true))⟩, ⟨(some 91), (.op (.pick (.t 86) (.t 90) (.k (.bool false)))), none⟩, ⟨(some 92), (.op (.mv (.t 91))), none⟩, ⟨(some 93), (.op (.mv (.t 7))), (some (92, true))⟩, ⟨(some 94), (.op (.mv (.t 2))), (some (92, true))⟩, ⟨(some 95), (.call (.f 30) [(.t 93), (.t 94)]), (some (92, true))⟩, ⟨(some 96), (.op (.bin .eql (.t 95) (.k (.int .u8 0)))), (some (92, true))⟩, ⟨(some 97), (.op (.pick (.t 92) (.t 96) (.k (.bool false)))), none⟩, ⟨(some 98), (.op (.mv (.t 97))), none⟩, ⟨(some 99), (.op (.mv (.t 10))), (some (98, true))⟩, ⟨(some 100), (.op (.bin .eql (.t 99) (.k (.int .i64 0)))), (some (98, true))⟩, ⟨(some 101), (.op (.pick (.t 98) (.t 100) (.k (.bool false)))), none⟩, ⟨(some 102), (.op (.mv (.t 101))), none⟩, ⟨(some 103), (.op (.mv (.t 11))), (some (102, true))⟩, ⟨(some 104), (.op (.un .not (.t 103))), (some (102, true))⟩, ⟨(some 105), (.op (.pick (.t 102) (.t 104) (.k (.bool false)))), none⟩, ⟨(some 106), (.op (.mv (.t 105))), none⟩, ⟨(some 107), (.op (.loadN 3 (.t 12))), (some (106, true))⟩, ⟨(some 108), (.op (.build [(.int .u8 0), (.int .i64 0), (.int .u64 0)] [])), (some (106, true))⟩, ⟨(some 109), (.op (.eq false (.st [(0, 1, false, .int), (1, 1, false, .int), (2, 1, false, .int)]) (.t 107) (.t 108))), (some (106, true))⟩, ⟨(some 110), (.op (.pick (.t 106) (.t 109) (.k (.bool false)))), none⟩, ⟨(some 111), (.op (.mv (.t 110))), none⟩, ⟨(some 112), (.op (.mv (.t 13))), (some (111, true))⟩, ⟨(some 113), (.op (.un .not (.t 112))), (some (111, true))⟩, ⟨(some 114), (.op (.pick (.t 111) (.t 113) (.k (.bool false)))), none⟩, ⟨(some 115), (.op (.mv (.t 114))), none⟩, ⟨(some 116), (.op (.mv (.t 7))), (some (115, true))⟩, ⟨(some 117), (.op (.faddr 1 (.t 3))), (some (115, true))⟩, ⟨(some 118), (.op (.load (.t 117))), (some (115, true))⟩, ⟨(some 119), (.call (.f 31) [(.t 116), (.t 118)]), (some (115, true))⟩, ⟨(some 120), (.op (.lenS (.t 119))), (some (115, true))⟩, ⟨(some 121), (.op (.bin .eql (.t 120) (.k (.int .i64 0)))), (some (115, true))⟩, ⟨(some 122), (.op (.pick (.t 115) (.t 121) (.k (.bool false)))), none⟩, ⟨(some 123), (.op (.mv (.t 122))), none⟩, ⟨(some 124), (.op (.mv (.t 7))), (some (123, true))⟩, ⟨(some 125), (.op (.faddr 1 (.t 3))), (some (123, true))⟩, ⟨(some 126), (.op (.load (.t 125))), (some (123, true))⟩, ⟨(some 127), (.call (.f 32) [(.t 124), (.t 126)]), (some (123, true))⟩, ⟨(some 128), (.op (.lenS (.t 127))), (some (123, true))⟩, ⟨(some 129), (.op (.bin .eql (.t 128) (.k (.int .i64 0)))), (some (123, true))⟩, ⟨(some 130), (.op (.pick (.t 123) (.t 129) (.k (.bool false)))), none⟩, ⟨(some 131), (.op (.mv (.t 130))), none⟩, ⟨(some 132), (.op (.mv (.t 7))), (some (131, true))⟩, ⟨(some 133), (.op (.faddr 1 (.t 3))), (some (131, true))⟩, ⟨(some 134), (.op (.load (.t 133))), (some (131, true))⟩, ⟨(some 135), (.call (.f 33) [(.t 132), (.t 134)]), (some (131, true))⟩, ⟨(some 136), (.op (.un .not (.t 135))), (some (131, true))⟩, ⟨(some 137), (.op (.pick (.t 131) (.t 136) (.k (.bool false)))), none⟩, ⟨(some 138), (.op (.mv (.t 137))), none⟩, ⟨(some 139), (.op (.mv (.t 7))), (some (138, true))⟩, ⟨(some 140), (.op (.faddr 1 (.t 3))), (some (138, true))⟩, ⟨(some 141), (.op (.load (.t 140))), (some (138, true))⟩, ⟨(some 142), (.call (.f 34) [(.t 139), (.t 141)]), (some (138, true))⟩, ⟨(some 143), (.op (.un .not (.t 142))), (some (138, true))⟩, ⟨(some 144), (.op (.pick (.t 138) (.t 143) (.k (.bool false)))), none⟩, ⟨(some 145), (.op (.mv (.t 144))), none⟩, ⟨(some 146), (.op (.mv (.t 7))), (some (145, true))⟩, ⟨(some 147), (.call (.f 17) [(.t 146)]), (some (145, true))⟩, ⟨(some 148), (.op (.bin .eql (.t 147) (.k (.int .u64 0)))), (some (145, true))⟩, ⟨(some 149), (.op (.pick (.t 145) (.t 148) (.k (.bool false)))), none⟩, ⟨(some 150), (.op (.mv (.t 149))), none⟩, ⟨(some 151), (.op (.mv (.t 7))), (some (150, true))⟩, ⟨(some 152), (.call (.f 21) [(.t 151)]), (some (150, true))⟩, ⟨(some 153), (.op (.eq false .ptr (.t 152) (.k (.pointer none)))), (some (150, true))⟩, ⟨(some 154), (.op (.pick (.t 150) (.t 153) (.k (.bool false)))), none⟩, ⟨(some 155), (.op (.mv (.t 154))), none⟩, ⟨(some 156), (.op (.mv (.t 1))), (some (155, true))⟩, ⟨(some 157), (.call (.f 35) [(.t 156)]), (some (155, true))⟩, ⟨(some 158), (.op (.eq true .ptr (.t 157) (.k (.pointer none)))), (some (155, true))⟩, ⟨(some 159), (.op (.mv (.t 1))), (some (155, true))⟩, ⟨(some 160), (.call (.f 36) [(.t 159)]), (some (155, true))⟩, ⟨(some 161), (.op (.eq false .bool (.t 158) (.t 160))), (some (155, true))⟩, ⟨(some 162), (.op (.pick (.t 155) (.t 161) (.k (.bool false)))), none⟩, ⟨(some 6), (.op (.mv (.t 162))), none⟩])
  .ret))))))
def a7 : AF := ⟨163, [(.t 6)], .code b7, none⟩
theorem ok7 : AFOk Tryz.prog ext 7 a7 := .of Tryz.func7 (by kernel_rfl) (by kernel_rfl) (by kernel_rfl) (by kernel_rfl)
/-! 9: rowlock/rowlocklaw11.live -/
def b9 : AC :=
  (.seq (.reg [⟨(some 0), (.op (.mv (.k (.bool false)))), none⟩])
  (.seq (.reg [⟨(some 8), (.call (.f 12) []), none⟩, ⟨(some 9), (.call (.f 35) [(.t 8)]), none⟩, ⟨(some 1), (.op (.mv (.t 9))), none⟩])
  (.seq (.reg [⟨(some 11), (.op (.mv (.t 1))), none⟩, ⟨(some 12), (.call (.f 24) [(.t 11), (.k (.int .i64 1))]), none⟩, ⟨(some 10), (.op (.mv (.t 12))), none⟩, ⟨(some 13), (.op (.extract (.t 10) 0)), none⟩, ⟨(some 14), (.op (.extract (.t 10) 1)), none⟩, ⟨(some 2), (.op (.mv (.t 13))), none⟩, ⟨(some 3), (.op (.mv (.t 14))), none⟩])
  (.seq (.reg [⟨(some 15), (.op (.mv (.t 1))), none⟩, ⟨(some 16), (.op (.build [(.int .u8 0), (.int .i64 0), (.int .u64 0)] [(0, 1, (.k (.int .u8 1))), (1, 1, (.k (.int .i64 1)))])), none⟩, ⟨(some 17), (.call (.f 27) [(.t 15), (.k (.int .i64 1)), (.t 16)]), none⟩, ⟨(some 4), (.op (.mv (.t 17))), none⟩])
  (.seq (.reg [⟨(some 18), (.op (.mv (.t 1))), none⟩, ⟨(some 19), (.call (.f 28) [(.t 18), (.k (.int .i64 1))]), none⟩])
  (.seq (.reg [⟨(some 20), (.op (.mv (.t 1))), none⟩, ⟨(some 21), (.call (.f 28) [(.t 20), (.k (.int .i64 1))]), none⟩, ⟨(some 5), (.op (.alloc 63 [(.bool false), (.int .u64 0), (.bool false), (.int .i64 0), (.bool false), (.int .u8 0), (.int .i64 0)])), none⟩, ⟨none, (.op (.store 7 (.t 5) (.t 21))), none⟩])
  (.seq (.reg [⟨(some 22), (.op (.mv (.t 1))), none⟩, ⟨(some 23), (.op (.build [(.int .u8 0), (.int .i64 0), (.int .u64 0)] [(0, 1, (.k (.int .u8 6)))])), none⟩, ⟨(some 24), (.call (.f 27) [(.t 22), (.k (.int .i64 1)), (.t 23)]), none⟩, ⟨(some 6), (.op (.mv (.t 24))), none⟩])
  (.seq (.reg [⟨(some 25), (.op (.mv (.t 1))), none⟩, ⟨(some 26), (.call (.f 28) [(.t 25), (.k (.int .i64 1))]), none⟩, ⟨(some 7), (.op (.alloc 63 [(.bool false), (.int .u64 0), (.bool false), (.int .i64 0), (.bool false), (.int .u8 0), (.int .i64 0)])), none⟩, ⟨none, (.op (.store 7 (.t 7) (.t 26))), none⟩])
  (.seq (.reg [⟨(some 27), (.op (.mv (.t 2))), none⟩, ⟨(some 28), (.op (.bin .eql (.t 27) (.k (.int .i64 0)))), none⟩, ⟨(some 29), (.op (.mv (.t 28))), none⟩, ⟨(some 30), (.op (.mv (.t 3))), (some (29, true))⟩, ⟨(some 31), (.op (.bin .eql (.t 30) (.k (.int .i64 0)))), (some (29, true))⟩, ⟨(some 32), (.op (.pick (.t 29) (.t 31) (.k (.bool false)))), none⟩, ⟨(some 33), (.op (.mv (.t 32))), none⟩, ⟨(some 34), (.op (.mv (.t 4))), (some (33, true))⟩, ⟨(some 35), (.op (.bin .eql (.t 34) (.k (.int .i64 0)))), (some (33, true))⟩, ⟨(some 36), (.op (.pick (.t 33) (.t 35) (.k (.bool false)))), none⟩, ⟨(some 37), (.op (.mv (.t 36))), none⟩, ⟨(some 38), (.op (.mv (.t 6))), (some (37, true))⟩, ⟨(some 39), (.op (.bin .eql (.t 38) (.k (.int .i64 0)))), (some (37, true))⟩, ⟨(some 40), (.op (.pick (.t 37) (.t 39) (.k (.bool false)))), none⟩, ⟨(some 41), (.op (.mv (.t 40))), none⟩, ⟨(some 42), (.op (.faddr 0 (.t 5))), (some (41, true))⟩, ⟨(some 43), (.op (.load (.t 42))), (some (41, true))⟩, ⟨(some 44), (.op (.pick (.t 41) (.t 43) (.k (.bool false)))), none⟩, ⟨(some 45), (.op (.mv (.t 44))), none⟩, ⟨(some 46), (.op (.faddr 1 (.t 5))), (some (45, true))⟩, ⟨(some 47), (.op (.load (.t 46))), (some (45, true))⟩, ⟨(some 48), (.op (.bin .eql (.t 47) (.k (.int .u64 4607182418800017408)))), (some (45, true))⟩, ⟨(some 49), (.op (.pick (.t 45) (.t 48) (.k (.bool false)))), none⟩, ⟨(some 50), (.op (.mv (.t 49))), none⟩, ⟨(some 51), (.op (.faddr 4 (.t 7))), (some (50, true))⟩, ⟨(some 52), (.op (.load (.t 51))), (some (50, true))⟩, ⟨(some 53), (.op (.pick (.t 50) (.t 52) (.k (.bool false)))), none⟩, ⟨(some 54), (.op (.mv (.t 53))), none⟩, ⟨(some 55), (.op (.faddr 5 (.t 7))), (some (54, true))⟩, ⟨(some 56), (.op (.load (.t 55))), (some (54, true))⟩, ⟨(some 57), (.op (.bin .eql (.t 56) (.k (.int .u8 0)))), (some (54, true))⟩, ⟨(some 58), (.op (.pick (.t 54) (.t 57) (.k (.bool false)))), none⟩, ⟨(some 59), (.op (.mv (.t 58))), none⟩, ⟨(some 60), (.op (.mv (.t 1))), (some (59, true))⟩, ⟨(some 61), (.call (.f 11) [(.t 60)]), (some (59, true))⟩, ⟨(some 62), (.op (.lenS (.t 61))), (some (59, true))⟩, ⟨(some 63), (.op (.bin .eql (.t 62) (.k (.int .i64 4)))), (some (59, true))⟩, ⟨(some 64), (.op (.pick (.t 59) (.t 63) (.k (.bool false)))), none⟩, ⟨(some 0), (.op (.mv (.t 64))), none⟩])
  .ret)))))))))
def a9 : AF := ⟨65, [(.t 0)], .code b9, none⟩
theorem ok9 : AFOk Tryz.prog ext 9 a9 := .of Tryz.func9 (by kernel_rfl) (by kernel_rfl) (by kernel_rfl) (by kernel_rfl)
/-! 11: (*rowlock/norec.Engine).Events -/
def b11 : AC :=
  (.seq (.reg [⟨(some 2), (.op (.mv (.k (.slice none 0 0)))), none⟩])
  (.seq (.seq (.reg [⟨(some 3), (.op (.mv (.t 0))), none⟩, ⟨(some 4), (.op (.eq false .ptr (.t 3) (.k (.pointer none)))), none⟩])
  (.cond (.t 4) (.seq (.reg [⟨(some 2), (.op (.mv (.k (.slice none 0 0)))), none⟩])
  .ret)
  .skip))
  (.seq (.reg [⟨(some 5), (.op (.mv (.t 0))), none⟩, ⟨(some 6), (.op (.nilchk (.t 5))), none⟩, ⟨(some 7), (.op (.faddr 3 (.t 6))), none⟩, ⟨(some 8), (.op (.load (.t 7))), none⟩, ⟨(some 9), (.call (.f 42) [(.t 8)]), none⟩, ⟨(some 2), (.op (.mv (.t 9))), none⟩])
  .ret)))
def a11 : AF := ⟨10, [(.t 2)], .code b11, none⟩
theorem ok11 : AFOk Tryz.prog ext 11 a11 := .of Tryz.func11 (by kernel_rfl) (by kernel_rfl) (by kernel_rfl) (by kernel_rfl)
/-! 12: rowlock/rowlocklaw11.first -/
def b12 : AC :=
  (.seq (.reg [⟨(some 0), (.op (.mv (.k (.slice none 0 0)))), none⟩])
  (.seq (.reg [⟨(some 1), (.op (.bslice 49 [(.int .u64 0), (.int .u64 0), (.int .u64 0), (.int .u64 0), (.int .u64 0)] 5 [(0, 1, (.k (.int .u64 0))), (1, 1, (.k (.int .u64 4607182418800017408))), (2, 1, (.k (.int .u64 9221120237041090560))), (3, 1, (.k (.int .u64 9223372036854775808))), (4, 1, (.k (.int .u64 0)))])), none⟩, ⟨(some 0), (.op (.mv (.t 1))), none⟩])
  .ret))
def a12 : AF := ⟨2, [(.t 0)], .code b12, none⟩
theorem ok12 : AFOk Tryz.prog ext 12 a12 := .of Tryz.func12 (by kernel_rfl) (by kernel_rfl) (by kernel_rfl) (by kernel_rfl)
/-! 13: (*rowlock/norec.Engine).Order -/
def b13 : AC :=
  (.seq (.reg [⟨(some 1), (.op (.box 23 (.t 0))), none⟩, ⟨(some 2), (.op (.mv (.k (.slice none 0 0)))), none⟩])
  (.seq (.seq (.reg [⟨(some 5), (.op (.load (.t 1))), none⟩, ⟨(some 6), (.op (.eq false .ptr (.t 5) (.k (.pointer none)))), none⟩])
  (.cond (.t 6) (.seq (.reg [⟨(some 2), (.op (.mv (.k (.slice none 0 0)))), none⟩])
  .ret)
  .skip))
  (.seq (.reg [⟨(some 7), (.op (.load (.t 1))), none⟩, ⟨(some 8), (.op (.nilchk (.t 7))), none⟩, ⟨(some 9), (.op (.faddr 4 (.t 8))), none⟩, ⟨(some 10), (.op (.load (.t 9))), none⟩, ⟨(some 11), (.op (.lenS (.t 10))), none⟩, ⟨(some 12), (.op (.mkslice 3 [(.int .i64 0)] 8 (.t 11) (.t 11))), none⟩, ⟨(some 3), (.op (.mv (.t 12))), none⟩])
  (.seq (.seq (.reg [⟨(some 13), (.op (.mv (.t 3))), none⟩, ⟨(some 14), (.op (.lenS (.t 13))), none⟩, ⟨(some 15), (.op (.mv (.k (.int .i64 0)))), none⟩])
  (.block 0 (.loop (.seq (.reg [⟨(some 16), (.op (.bin .lss (.t 15) (.t 14))), none⟩])
   (.seq (.cond (.t 16) .skip
   (.exit 0))
   (.seq (.block 1 (.seq (.reg [⟨(some 17), (.op (.mv (.t 15))), none⟩, ⟨(some 4), (.op (.mv (.t 17))), none⟩])
   (.reg [⟨(some 18), (.op (.mv (.t 3))), none⟩, ⟨(some 19), (.op (.mv (.t 4))), none⟩, ⟨(some 20), (.op (.mv (.t 4))), none⟩, ⟨(some 21), (.op (.iaddrS 1 (.t 18) (.t 19))), none⟩, ⟨none, (.op (.store 1 (.t 21) (.t 20))), none⟩])))
   (.reg [⟨(some 22), (.op (.bin .add (.t 15) (.k (.int .i64 1)))), none⟩, ⟨(some 15), (.op (.mv (.t 22))), none⟩])))))))
  (.seq (.reg [⟨(some 23), (.op (.mv (.t 3))), none⟩, ⟨(some 24), (.op (.mkfunc 44 [] [(.t 1)])), none⟩, ⟨(some 25), (.call (.f 43) [(.t 23), (.t 24)]), none⟩])
  (.seq (.reg [⟨(some 26), (.op (.mv (.t 3))), none⟩, ⟨(some 2), (.op (.mv (.t 26))), none⟩])
  .ret))))))
def a13 : AF := ⟨27, [(.t 2)], .code b13, none⟩
theorem ok13 : AFOk Tryz.prog ext 13 a13 := .of Tryz.func13 (by kernel_rfl) (by kernel_rfl) (by kernel_rfl) (by kernel_rfl)
/-! 14: (*rowlock/norec.Engine).Decided -/
def b14 : AC :=
  (.seq (.reg [⟨(some 2), (.op (.mv (.k (.slice none 0 0)))), none⟩])
  (.scope (.seq (.reg [⟨(some 3), (.op (.mv (.k (.slice none 0 0)))), none⟩])
  (.seq (.label 0)
  (.seq (.seq (.reg [⟨(some 6), (.op (.mv (.k (.int .i64 0)))), none⟩])
  (.block 0 (.loop (.seq (.reg [⟨(some 7), (.op (.bin .lss (.t 6) (.k (.int .i64 4)))), none⟩])
   (.seq (.cond (.t 7) .skip
   (.exit 0))
   (.seq (.block 1 (.seq (.reg [⟨(some 8), (.op (.mv (.t 6))), none⟩, ⟨(some 4), (.op (.mv (.t 8))), none⟩])
   (.seq (.reg [⟨(some 9), (.op (.mv (.t 0))), none⟩, ⟨(some 10), (.op (.mv (.t 4))), none⟩, ⟨(some 11), (.call (.f 46) [(.t 9), (.t 10)]), none⟩, ⟨(some 5), (.op (.mv (.t 11))), none⟩])
   (.seq (.seq (.reg [⟨(some 12), (.op (.mv (.t 5))), none⟩, ⟨(some 13), (.op (.eq false .ptr (.t 12) (.k (.pointer none)))), none⟩, ⟨(some 14), (.op (.mv (.t 13))), none⟩, ⟨(some 15), (.op (.mv (.t 5))), (some (14, false))⟩, ⟨(some 16), (.op (.nilchk (.t 15))), (some (14, false))⟩, ⟨(some 17), (.op (.faddr 12 (.t 16))), (some (14, false))⟩, ⟨(some 18), (.op (.load (.t 17))), (some (14, false))⟩, ⟨(some 19), (.op (.un .not (.t 18))), (some (14, false))⟩, ⟨(some 20), (.op (.pick (.t 14) (.k (.bool true)) (.t 19))), none⟩])
   (.cond (.t 20) (.exit 1)
   .skip))
   (.reg [⟨(some 21), (.op (.mv (.t 3))), none⟩, ⟨(some 22), (.op (.mv (.t 5))), none⟩, ⟨(some 23), (.op (.nilchk (.t 22))), none⟩, ⟨(some 24), (.op (.faddr 2 (.t 23))), none⟩, ⟨(some 25), (.op (.load (.t 24))), none⟩, ⟨(some 26), (.op (.bslice 3 [(.int .i64 0)] 1 [(0, 1, (.t 25))])), none⟩, ⟨(some 27), (.op (.append 3 1 8 (.t 21) (.t 26))), none⟩, ⟨(some 3), (.op (.mv (.t 27))), none⟩])))))
   (.reg [⟨(some 28), (.op (.bin .add (.t 6) (.k (.int .i64 1)))), none⟩, ⟨(some 6), (.op (.mv (.t 28))), none⟩])))))))
  (.seq (.reg [⟨(some 29), (.op (.mv (.t 3))), none⟩, ⟨(some 30), (.call (.f 47) [(.t 29)]), none⟩])
  (.seq (.reg [⟨(some 31), (.op (.mv (.t 3))), none⟩, ⟨(some 2), (.op (.mv (.t 31))), none⟩])
  .ret)))))))
def a14 : AF := ⟨32, [(.t 2)], .code b14, none⟩
theorem ok14 : AFOk Tryz.prog ext 14 a14 := .of Tryz.func14 (by kernel_rfl) (by kernel_rfl) (by kernel_rfl) (by kernel_rfl)
/-! 16: (*rowlock/norec.Engine).Heap -/
def b16 : AC :=
  (.seq (.reg [⟨(some 2), (.op (.mv (.k (.slice none 0 0)))), none⟩])
  (.seq (.seq (.reg [⟨(some 3), (.op (.mv (.t 0))), none⟩, ⟨(some 4), (.op (.eq false .ptr (.t 3) (.k (.pointer none)))), none⟩])
  (.cond (.t 4) (.seq (.reg [⟨(some 2), (.op (.mv (.k (.slice none 0 0)))), none⟩])
  .ret)
  .skip))
  (.seq (.reg [⟨(some 5), (.op (.mv (.t 0))), none⟩, ⟨(some 6), (.op (.nilchk (.t 5))), none⟩, ⟨(some 7), (.op (.faddr 1 (.t 6))), none⟩, ⟨(some 8), (.op (.load (.t 7))), none⟩, ⟨(some 9), (.call (.f 48) [(.t 8)]), none⟩, ⟨(some 2), (.op (.mv (.t 9))), none⟩])
  .ret)))
def a16 : AF := ⟨10, [(.t 2)], .code b16, none⟩
theorem ok16 : AFOk Tryz.prog ext 16 a16 := .of Tryz.func16 (by kernel_rfl) (by kernel_rfl) (by kernel_rfl) (by kernel_rfl)
/-! 17: (*rowlock/norec.Engine).Clock -/
def b17 : AC :=
  (.seq (.reg [⟨(some 2), (.op (.mv (.k (.int .u64 0)))), none⟩])
  (.seq (.seq (.reg [⟨(some 3), (.op (.mv (.t 0))), none⟩, ⟨(some 4), (.op (.eq false .ptr (.t 3) (.k (.pointer none)))), none⟩])
  (.cond (.t 4) (.seq (.reg [⟨(some 2), (.op (.mv (.k (.int .u64 0)))), none⟩])
  .ret)
  .skip))
  (.seq (.reg [⟨(some 5), (.op (.mv (.t 0))), none⟩, ⟨(some 6), (.op (.nilchk (.t 5))), none⟩, ⟨(some 7), (.op (.faddr 0 (.t 6))), none⟩, ⟨(some 8), (.op (.load (.t 7))), none⟩, ⟨(some 9), (.call (.f 49) [(.t 8)]), none⟩, ⟨(some 2), (.op (.mv (.t 9))), none⟩])
  .ret)))
def a17 : AF := ⟨10, [(.t 2)], .code b17, none⟩
theorem ok17 : AFOk Tryz.prog ext 17 a17 := .of Tryz.func17 (by kernel_rfl) (by kernel_rfl) (by kernel_rfl) (by kernel_rfl)
/-! 18: rowlock/rowlockref01.SameVals -/
def b18 : AC :=
  (.seq (.reg [⟨(some 4), (.op (.mv (.k (.bool false)))), none⟩])
  (.seq (.seq (.reg [⟨(some 6), (.op (.mv (.t 0))), none⟩, ⟨(some 7), (.op (.lenS (.t 6))), none⟩, ⟨(some 8), (.op (.mv (.t 1))), none⟩, ⟨(some 9), (.op (.lenS (.t 8))), none⟩, ⟨(some 10), (.op (.bin .neq (.t 7) (.t 9))), none⟩])
  (.cond (.t 10) (.seq (.reg [⟨(some 4), (.op (.mv (.k (.bool false)))), none⟩])
  .ret)
  .skip))
  (.seq (.seq (.reg [⟨(some 5), (.op (.mv (.k (.int .i64 0)))), none⟩])
  (.block 0 (.loop (.seq (.seq (.reg [⟨(some 11), (.op (.mv (.t 5))), none⟩, ⟨(some 12), (.op (.mv (.t 0))), none⟩, ⟨(some 13), (.op (.lenS (.t 12))), none⟩, ⟨(some 14), (.op (.bin .lss (.t 11) (.t 13))), none⟩])
   (.cond (.t 14) .skip
   (.exit 0)))
   (.seq (.block 1 (.seq (.dreg (.quiet ⟨(some 17), (.op (.mv (.t 0))), none⟩ (.quiet ⟨(some 18), (.op (.mv (.t 5))), none⟩ (.quiet ⟨(some 19), (.op (.iaddrS 1 (.t 17) (.t 18))), none⟩ (.quiet ⟨(some 20), (.op (.load (.t 19))), none⟩ (.quiet ⟨(some 21), (.op (.mv (.t 1))), none⟩ (.quiet ⟨(some 22), (.op (.mv (.t 5))), none⟩ (.quiet ⟨(some 23), (.op (.iaddrS 1 (.t 21) (.t 22))), none⟩ (.quiet ⟨(some 24), (.op (.load (.t 23))), none⟩ (.quiet ⟨(some 25), (.op (.bin .neq (.t 20) (.t 24))), none⟩ .nil))))))))))
   (.cond (.t 25) (.seq (.reg [⟨(some 4), (.op (.mv (.k (.bool false)))), none⟩])
   .ret)
   .skip)))
   (.reg [⟨(some 15), (.op (.mv (.t 5))), none⟩, ⟨(some 16), (.op (.bin .add (.t 15) (.k (.int .i64 1)))), none⟩, ⟨(some 5), (.op (.mv (.t 16))), none⟩]))))))
  (.seq (.reg [⟨(some 4), (.op (.mv (.k (.bool true)))), none⟩])
  .ret))))
def a18 : AF := ⟨26, [(.t 4)], .code b18, none⟩
theorem ok18 : AFOk Tryz.prog ext 18 a18 := .of Tryz.func18 (by kernel_rfl) (by kernel_rfl) (by kernel_rfl) (by kernel_rfl)
/-! 21: (*rowlock/norec.Engine).Fork -/
def b21 : AC :=
  (.seq (.reg [⟨(some 2), (.op (.mv (.k (.pointer none)))), none⟩])
  (.seq (.seq (.reg [⟨(some 7), (.op (.mv (.t 0))), none⟩, ⟨(some 8), (.op (.eq false .ptr (.t 7) (.k (.pointer none)))), none⟩])
  (.cond (.t 8) (.seq (.reg [⟨(some 2), (.op (.mv (.k (.pointer none)))), none⟩])
  .ret)
  .skip))
  (.seq (.dreg (.quiet ⟨(some 9), (.op (.mv (.t 0))), none⟩ (.quiet ⟨(some 10), (.op (.nilchk (.t 9))), none⟩ (.quiet ⟨(some 11), (.op (.faddr 0 (.t 10))), none⟩ (.quiet ⟨(some 12), (.op (.load (.t 11))), none⟩ (.quiet ⟨(some 14), (.op (.mv (.t 0))), none⟩ (.quiet ⟨(some 15), (.op (.nilchk (.t 14))), none⟩ (.quiet ⟨(some 16), (.op (.faddr 1 (.t 15))), none⟩ (.quiet ⟨(some 17), (.op (.load (.t 16))), none⟩ (.quiet ⟨(some 20), (.op (.mv (.t 0))), none⟩ (.quiet ⟨(some 21), (.op (.nilchk (.t 20))), none⟩ (.quiet ⟨(some 22), (.op (.faddr 3 (.t 21))), none⟩ (.quiet ⟨(some 23), (.op (.load (.t 22))), none⟩ (.quiet ⟨(some 25), (.op (.mv (.t 0))), none⟩ (.quiet ⟨(some 26), (.op (.nilchk (.t 25))), none⟩ (.quiet ⟨(some 27), (.op (.faddr 4 (.t 26))), none⟩ (.quiet ⟨(some 28), (.op (.load (.t 27))), none⟩ (.quiet ⟨(some 30), (.op (.mv (.t 0))), none⟩ (.quiet ⟨(some 31), (.op (.nilchk (.t 30))), none⟩ (.quiet ⟨(some 32), (.op (.faddr 5 (.t 31))), none⟩ (.quiet ⟨(some 33), (.op (.load (.t 32))), none⟩ (.both (.loud ⟨(some 13), (.call (.f 67) [(.t 12)]), none⟩ [⟨(some 33), (.op (.load (.t 32))), none⟩, ⟨(some 28), (.op (.load (.t 27))), none⟩, ⟨(some 23), (.op (.load (.t 22))), none⟩, ⟨(some 17), (.op (.load (.t 16))), none⟩] (.both (.loud ⟨(some 18), (.call (.f 48) [(.t 17)]), none⟩ [⟨(some 33), (.op (.load (.t 32))), none⟩, ⟨(some 28), (.op (.load (.t 27))), none⟩, ⟨(some 23), (.op (.load (.t 22))), none⟩] (.both (.loud ⟨(some 19), (.op (.mkmap)), none⟩ [⟨(some 33), (.op (.load (.t 32))), none⟩, ⟨(some 28), (.op (.load (.t 27))), none⟩, ⟨(some 23), (.op (.load (.t 22))), none⟩, ⟨(some 17), (.op (.load (.t 16))), none⟩, ⟨(some 12), (.op (.load (.t 11))), none⟩] (.loud ⟨(some 24), (.call (.f 42) [(.t 23)]), none⟩ [⟨(some 33), (.op (.load (.t 32))), none⟩, ⟨(some 28), (.op (.load (.t 27))), none⟩] (.loud ⟨(some 29), (.call (.f 68) [(.t 28)]), none⟩ [⟨(some 33), (.op (.load (.t 32))), none⟩] (.loud ⟨(some 34), (.call (.f 69) [(.t 33)]), none⟩ [] (.quiet ⟨(some 35), (.op (.build [(.pointer none), (.slice none 0 0), (.map none), (.slice none 0 0), (.slice none 0 0), (.slice none 0 0)] [(0, 1, (.t 13)), (1, 1, (.t 18)), (2, 1, (.t 19)), (3, 1, (.t 24)), (4, 1, (.t 29)), (5, 1, (.t 34))])), none⟩ (.loud ⟨(some 36), (.op (.box 90 (.t 35))), none⟩ [] (.loud ⟨(some 3), (.op (.mv (.t 36))), none⟩ [] .nil)))))))
    (.loud ⟨(some 24), (.call (.f 42) [(.t 23)]), none⟩ [⟨(some 33), (.op (.load (.t 32))), none⟩, ⟨(some 28), (.op (.load (.t 27))), none⟩] (.both (.loud ⟨(some 19), (.op (.mkmap)), none⟩ [⟨(some 33), (.op (.load (.t 32))), none⟩, ⟨(some 28), (.op (.load (.t 27))), none⟩, ⟨(some 23), (.op (.load (.t 22))), none⟩, ⟨(some 17), (.op (.load (.t 16))), none⟩, ⟨(some 12), (.op (.load (.t 11))), none⟩] (.loud ⟨(some 29), (.call (.f 68) [(.t 28)]), none⟩ [⟨(some 33), (.op (.load (.t 32))), none⟩] (.loud ⟨(some 34), (.call (.f 69) [(.t 33)]), none⟩ [] (.quiet ⟨(some 35), (.op (.build [(.pointer none), (.slice none 0 0), (.map none), (.slice none 0 0), (.slice none 0 0), (.slice none 0 0)] [(0, 1, (.t 13)), (1, 1, (.t 18)), (2, 1, (.t 19)), (3, 1, (.t 24)), (4, 1, (.t 29)), (5, 1, (.t 34))])), none⟩ (.loud ⟨(some 36), (.op (.box 90 (.t 35))), none⟩ [] (.loud ⟨(some 3), (.op (.mv (.t 36))), none⟩ [] .nil))))))
    (.loud ⟨(some 29), (.call (.f 68) [(.t 28)]), none⟩ [⟨(some 33), (.op (.load (.t 32))), none⟩] (.both (.loud ⟨(some 19), (.op (.mkmap)), none⟩ [⟨(some 33), (.op (.load (.t 32))), none⟩, ⟨(some 28), (.op (.load (.t 27))), none⟩, ⟨(some 23), (.op (.load (.t 22))), none⟩, ⟨(some 17), (.op (.load (.t 16))), none⟩, ⟨(some 12), (.op (.load (.t 11))), none⟩] (.loud ⟨(some 34), (.call (.f 69) [(.t 33)]), none⟩ [] (.quiet ⟨(some 35), (.op (.build [(.pointer none), (.slice none 0 0), (.map none), (.slice none 0 0), (.slice none 0 0), (.slice none 0 0)] [(0, 1, (.t 13)), (1, 1, (.t 18)), (2, 1, (.t 19)), (3, 1, (.t 24)), (4, 1, (.t 29)), (5, 1, (.t 34))])), none⟩ (.loud ⟨(some 36), (.op (.box 90 (.t 35))), none⟩ [] (.loud ⟨(some 3), (.op (.mv (.t 36))), none⟩ [] .nil)))))
    (.loud ⟨(some 34), (.call (.f 69) [(.t 33)]), none⟩ [] (.loud ⟨(some 19), (.op (.mkmap)), none⟩ [⟨(some 33), (.op (.load (.t 32))), none⟩, ⟨(some 28), (.op (.load (.t 27))), none⟩, ⟨(some 23), (.op (.load (.t 22))), none⟩, ⟨(some 17), (.op (.load (.t 16))), none⟩, ⟨(some 12), (.op (.load (.t 11))), none⟩] (.quiet ⟨(some 35), (.op (.build [(.pointer none), (.slice none 0 0), (.map none), (.slice none 0 0), (.slice none 0 0), (.slice none 0 0)] [(0, 1, (.t 13)), (1, 1, (.t 18)), (2, 1, (.t 19)), (3, 1, (.t 24)), (4, 1, (.t 29)), (5, 1, (.t 34))])), none⟩ (.loud ⟨(some 36), (.op (.box 90 (.t 35))), none⟩ [] (.loud ⟨(some 3), (.op (.mv (.t 36))), none⟩ [] .nil)))))))))))
    (.loud ⟨(some 19), (.op (.mkmap)), none⟩ [⟨(some 33), (.op (.load (.t 32))), none⟩, ⟨(some 28), (.op (.load (.t 27))), none⟩, ⟨(some 23), (.op (.load (.t 22))), none⟩, ⟨(some 17), (.op (.load (.t 16))), none⟩, ⟨(some 12), (.op (.load (.t 11))), none⟩] (.loud ⟨(some 18), (.call (.f 48) [(.t 17)]), none⟩ [⟨(some 33), (.op (.load (.t 32))), none⟩, ⟨(some 28), (.op (.load (.t 27))), none⟩, ⟨(some 23), (.op (.load (.t 22))), none⟩] (.loud ⟨(some 24), (.call (.f 42) [(.t 23)]), none⟩ [⟨(some 33), (.op (.load (.t 32))), none⟩, ⟨(some 28), (.op (.load (.t 27))), none⟩] (.loud ⟨(some 29), (.call (.f 68) [(.t 28)]), none⟩ [⟨(some 33), (.op (.load (.t 32))), none⟩] (.loud ⟨(some 34), (.call (.f 69) [(.t 33)]), none⟩ [] (.quiet ⟨(some 35), (.op (.build [(.pointer none), (.slice none 0 0), (.map none), (.slice none 0 0), (.slice none 0 0), (.slice none 0 0)] [(0, 1, (.t 13)), (1, 1, (.t 18)), (2, 1, (.t 19)), (3, 1, (.t 24)), (4, 1, (.t 29)), (5, 1, (.t 34))])), none⟩ (.loud ⟨(some 36), (.op (.box 90 (.t 35))), none⟩ [] (.loud ⟨(some 3), (.op (.mv (.t 36))), none⟩ [] .nil))))))))))
    (.loud ⟨(some 19), (.op (.mkmap)), none⟩ [⟨(some 33), (.op (.load (.t 32))), none⟩, ⟨(some 28), (.op (.load (.t 27))), none⟩, ⟨(some 23), (.op (.load (.t 22))), none⟩, ⟨(some 17), (.op (.load (.t 16))), none⟩, ⟨(some 12), (.op (.load (.t 11))), none⟩] (.loud ⟨(some 13), (.call (.f 67) [(.t 12)]), none⟩ [⟨(some 33), (.op (.load (.t 32))), none⟩, ⟨(some 28), (.op (.load (.t 27))), none⟩, ⟨(some 23), (.op (.load (.t 22))), none⟩, ⟨(some 17), (.op (.load (.t 16))), none⟩] (.loud ⟨(some 18), (.call (.f 48) [(.t 17)]), none⟩ [⟨(some 33), (.op (.load (.t 32))), none⟩, ⟨(some 28), (.op (.load (.t 27))), none⟩, ⟨(some 23), (.op (.load (.t 22))), none⟩] (.loud ⟨(some 24), (.call (.f 42) [(.t 23)]), none⟩ [⟨(some 33), (.op (.load (.t 32))), none⟩, ⟨(some 28), (.op (.load (.t 27))), none⟩] (.loud ⟨(some 29), (.call (.f 68) [(.t 28)]), none⟩ [⟨(some 33), (.op (.load (.t 32))), none⟩] (.loud ⟨(some 34), (.call (.f 69) [(.t 33)]), none⟩ [] (.quiet ⟨(some 35), (.op (.build [(.pointer none), (.slice none 0 0), (.map none), (.slice none 0 0), (.slice none 0 0), (.slice none 0 0)] [(0, 1, (.t 13)), (1, 1, (.t 18)), (2, 1, (.t 19)), (3, 1, (.t 24)), (4, 1, (.t 29)), (5, 1, (.t 34))])), none⟩ (.loud ⟨(some 36), (.op (.box 90 (.t 35))), none⟩ [] (.loud ⟨(some 3), (.op (.mv (.t 36))), none⟩ [] .nil)))))))))))))))))))))))))))))))
  (.seq (.seq (.reg [⟨(some 37), (.op (.mv (.t 0))), none⟩, ⟨(some 38), (.op (.nilchk (.t 37))), none⟩, ⟨(some 39), (.op (.faddr 2 (.t 38))), none⟩, ⟨(some 40), (.op (.load (.t 39))), none⟩, ⟨(some 41), (.op (.mrange (.t 40))), none⟩])
  (.block 0 (.loop (.seq (.reg [⟨(some 42), (.mnext (.t 41)), none⟩, ⟨(some 43), (.op (.extract (.t 42) 0)), none⟩])
   (.seq (.cond (.t 43) .skip
   (.exit 0))
   (.block 1 (.seq (.reg [⟨(some 44), (.op (.mentry (.t 41))), none⟩, ⟨(some 45), (.op (.extract (.t 44) 0)), none⟩, ⟨(some 46), (.op (.extract (.t 44) 1)), none⟩, ⟨(some 4), (.op (.mv (.t 45))), none⟩, ⟨(some 5), (.op (.mv (.t 46))), none⟩])
   (.seq (.reg [⟨(some 47), (.op (.mv (.t 5))), none⟩, ⟨(some 48), (.op (.nilchk (.t 47))), none⟩, ⟨(some 49), (.op (.loadN 13 (.t 48))), none⟩, ⟨(some 6), (.op (.alloc 100 [(.pointer none), (.pointer none), (.int .i64 0), (.int .u64 0), (.int .u8 0), (.int .i64 0), (.int .u64 0), (.int .i64 0), (.int .i64 0), (.int .i64 0), (.int .u64 0), (.int .u64 0), (.bool false)])), none⟩, ⟨none, (.op (.store 13 (.t 6) (.t 49))), none⟩])
   (.seq (.dreg (.quiet ⟨(some 50), (.op (.mv (.t 5))), none⟩ (.quiet ⟨(some 51), (.op (.nilchk (.t 50))), none⟩ (.quiet ⟨(some 52), (.op (.faddr 0 (.t 51))), none⟩ (.quiet ⟨(some 53), (.op (.load (.t 52))), none⟩ (.quiet ⟨(some 55), (.op (.mv (.t 5))), none⟩ (.quiet ⟨(some 56), (.op (.nilchk (.t 55))), none⟩ (.quiet ⟨(some 57), (.op (.faddr 1 (.t 56))), none⟩ (.quiet ⟨(some 58), (.op (.load (.t 57))), none⟩ (.loud ⟨(some 54), (.call (.f 70) [(.t 53)]), none⟩ [⟨(some 58), (.op (.load (.t 57))), none⟩] (.loud ⟨(some 59), (.call (.f 71) [(.t 58)]), none⟩ [] (.quiet ⟨(some 60), (.op (.faddr 0 (.t 6))), none⟩ (.loud ⟨none, (.op (.store 1 (.t 60) (.t 54))), none⟩ [] (.quiet ⟨(some 61), (.op (.faddr 1 (.t 6))), none⟩ (.loud ⟨none, (.op (.store 1 (.t 61) (.t 59))), none⟩ [] .nil)))))))))))))))
   (.reg [⟨(some 62), (.op (.mv (.t 3))), none⟩, ⟨(some 63), (.op (.nilchk (.t 62))), none⟩, ⟨(some 64), (.op (.faddr 2 (.t 63))), none⟩, ⟨(some 65), (.op (.load (.t 64))), none⟩, ⟨(some 66), (.op (.mv (.t 4))), none⟩, ⟨none, (.op (.mapupd false (.t 65) (.t 66) (.t 6))), none⟩]))))))))))
  (.seq (.reg [⟨(some 67), (.op (.mv (.t 3))), none⟩, ⟨(some 2), (.op (.mv (.t 67))), none⟩])
  .ret)))))
def a21 : AF := ⟨68, [(.t 2)], .code b21, none⟩
theorem ok21 : AFOk Tryz.prog ext 21 a21 := .of Tryz.func21 (by kernel_rfl) (by kernel_rfl) (by kernel_rfl) (by kernel_rfl)
/-! 24: (*rowlock/norec.Engine).Begin -/
def b24 : AC :=
  (.seq (.reg [⟨(some 4), (.op (.mv (.k (.int .i64 0)))), none⟩, ⟨(some 5), (.op (.mv (.k (.int .i64 0)))), none⟩])
  (.seq (.seq (.reg [⟨(some 10), (.op (.mv (.t 0))), none⟩, ⟨(some 11), (.op (.mv (.t 1))), none⟩, ⟨(some 12), (.call (.f 79) [(.t 10), (.t 11)]), none⟩, ⟨(some 6), (.op (.mv (.t 12))), none⟩])
  (.seq (.reg [⟨(some 13), (.op (.mv (.t 6))), none⟩, ⟨(some 14), (.op (.bin .neq (.t 13) (.k (.int .i64 0)))), none⟩])
  (.cond (.t 14) (.seq (.reg [⟨(some 15), (.op (.mv (.t 6))), none⟩, ⟨(some 4), (.op (.mv (.k (.int .i64 0)))), none⟩, ⟨(some 5), (.op (.mv (.t 15))), none⟩])
  .ret)
  .skip)))
  (.seq (.reg [⟨(some 16), (.op (.mv (.t 0))), none⟩, ⟨(some 17), (.op (.nilchk (.t 16))), none⟩, ⟨(some 18), (.op (.faddr 4 (.t 17))), none⟩, ⟨(some 19), (.op (.load (.t 18))), none⟩, ⟨(some 20), (.op (.lenS (.t 19))), none⟩, ⟨(some 7), (.op (.mv (.t 20))), none⟩])
  (.seq (.block 0 (.seq (.reg [⟨(some 22), (.op (.mv (.t 0))), none⟩, ⟨(some 23), (.op (.nilchk (.t 22))), none⟩, ⟨(some 24), (.op (.faddr 2 (.t 23))), none⟩, ⟨(some 25), (.op (.load (.t 24))), none⟩, ⟨(some 26), (.op (.mv (.t 1))), none⟩, ⟨(some 27), (.op (.lookup false (.pointer none) false (.t 25) (.t 26))), none⟩, ⟨(some 28), (.op (.eq true .ptr (.t 27) (.k (.pointer none)))), none⟩, ⟨(some 21), (.op (.mv (.t 28))), none⟩])
  (.cond (.t 21) (.seq (.reg [⟨(some 4), (.op (.mv (.k (.int .i64 0)))), none⟩, ⟨(some 5), (.op (.mv (.k (.int .i64 8)))), none⟩])
  .ret)
  (.seq (.reg [⟨(some 30), (.op (.mv (.t 7))), none⟩, ⟨(some 31), (.op (.bin .geq (.t 30) (.k (.int .i64 64)))), none⟩, ⟨(some 29), (.op (.mv (.t 31))), none⟩])
  (.cond (.t 29) (.seq (.reg [⟨(some 4), (.op (.mv (.k (.int .i64 0)))), none⟩, ⟨(some 5), (.op (.mv (.k (.int .i64 4)))), none⟩])
  .ret)
  .skip)))))
  (.seq (.reg [⟨(some 33), (.op (.mv (.t 0))), none⟩, ⟨(some 34), (.op (.nilchk (.t 33))), none⟩, ⟨(some 35), (.op (.faddr 0 (.t 34))), none⟩, ⟨(some 36), (.op (.load (.t 35))), none⟩, ⟨(some 37), (.call (.f 80) [(.t 36)]), none⟩, ⟨(some 32), (.op (.mv (.t 37))), none⟩, ⟨(some 38), (.op (.extract (.t 32) 0)), none⟩, ⟨(some 39), (.op (.extract (.t 32) 1)), none⟩, ⟨(some 8), (.op (.mv (.t 38))), none⟩, ⟨(some 9), (.op (.mv (.t 39))), none⟩])
  (.seq (.seq (.reg [⟨(some 40), (.op (.mv (.t 9))), none⟩, ⟨(some 41), (.op (.bin .neq (.t 40) (.k (.int .i64 0)))), none⟩])
  (.cond (.t 41) (.seq (.reg [⟨(some 42), (.op (.mv (.t 9))), none⟩, ⟨(some 4), (.op (.mv (.k (.int .i64 0)))), none⟩, ⟨(some 5), (.op (.mv (.t 42))), none⟩])
  .ret)
  .skip))
  (.seq (.dreg (.quiet ⟨(some 43), (.op (.mv (.t 0))), none⟩ (.quiet ⟨(some 44), (.op (.nilchk (.t 43))), none⟩ (.quiet ⟨(some 45), (.op (.faddr 2 (.t 44))), none⟩ (.quiet ⟨(some 46), (.op (.load (.t 45))), none⟩ (.quiet ⟨(some 47), (.op (.mv (.t 1))), none⟩ (.quiet ⟨(some 50), (.op (.mv (.t 7))), none⟩ (.quiet ⟨(some 51), (.op (.mv (.t 8))), none⟩ (.loud ⟨(some 48), (.call (.f 81) []), none⟩ [⟨(some 46), (.op (.load (.t 45))), none⟩] (.loud ⟨(some 49), (.call (.f 82) []), none⟩ [⟨(some 46), (.op (.load (.t 45))), none⟩] (.quiet ⟨(some 52), (.op (.build [(.pointer none), (.pointer none), (.int .i64 0), (.int .u64 0), (.int .u8 0), (.int .i64 0), (.int .u64 0), (.int .i64 0), (.int .i64 0), (.int .i64 0), (.int .u64 0), (.int .u64 0), (.bool false)] [(0, 1, (.t 48)), (1, 1, (.t 49)), (2, 1, (.t 50)), (3, 1, (.t 51))])), none⟩ (.loud ⟨(some 53), (.op (.box 100 (.t 52))), none⟩ [⟨(some 46), (.op (.load (.t 45))), none⟩] (.loud ⟨none, (.op (.mapupd false (.t 46) (.t 47) (.t 53))), none⟩ [] .nil)))))))))))))
  (.seq (.reg [⟨(some 54), (.op (.mv (.t 0))), none⟩, ⟨(some 55), (.op (.mv (.t 0))), none⟩, ⟨(some 56), (.op (.nilchk (.t 55))), none⟩, ⟨(some 57), (.op (.faddr 4 (.t 56))), none⟩, ⟨(some 58), (.op (.load (.t 57))), none⟩, ⟨(some 59), (.op (.mv (.t 8))), none⟩, ⟨(some 60), (.op (.bin .add (.t 59) (.k (.int .u64 1)))), none⟩, ⟨(some 61), (.op (.bslice 38 [(.int .u64 0)] 1 [(0, 1, (.t 60))])), none⟩, ⟨(some 62), (.op (.append 38 1 8 (.t 58) (.t 61))), none⟩, ⟨(some 63), (.op (.nilchk (.t 54))), none⟩, ⟨(some 64), (.op (.faddr 4 (.t 63))), none⟩, ⟨none, (.op (.store 1 (.t 64) (.t 62))), none⟩])
  (.seq (.reg [⟨(some 65), (.op (.mv (.t 0))), none⟩, ⟨(some 66), (.op (.mv (.t 0))), none⟩, ⟨(some 67), (.op (.nilchk (.t 66))), none⟩, ⟨(some 68), (.op (.faddr 5 (.t 67))), none⟩, ⟨(some 69), (.op (.load (.t 68))), none⟩, ⟨(some 70), (.op (.bslice 61 [(.int .u8 0)] 1 [(0, 1, (.k (.int .u8 0)))])), none⟩, ⟨(some 71), (.op (.append 61 1 1 (.t 69) (.t 70))), none⟩, ⟨(some 72), (.op (.nilchk (.t 65))), none⟩, ⟨(some 73), (.op (.faddr 5 (.t 72))), none⟩, ⟨none, (.op (.store 1 (.t 73) (.t 71))), none⟩])
  (.seq (.reg [⟨(some 74), (.op (.mv (.t 0))), none⟩, ⟨(some 75), (.op (.mv (.t 7))), none⟩, ⟨(some 76), (.op (.build [(.int .u8 0), (.int .i64 0), (.int .i64 0), (.int .u64 0)] [(0, 1, (.k (.int .u8 1))), (1, 1, (.t 75))])), none⟩, ⟨(some 77), (.call (.f 83) [(.t 74), (.t 76)]), none⟩])
  (.seq (.reg [⟨(some 78), (.op (.mv (.t 7))), none⟩, ⟨(some 4), (.op (.mv (.t 78))), none⟩, ⟨(some 5), (.op (.mv (.k (.int .i64 0)))), none⟩])
  .ret)))))))))))
def a24 : AF := ⟨79, [(.t 4), (.t 5)], .code b24, none⟩
theorem ok24 : AFOk Tryz.prog ext 24 a24 := .of Tryz.func24 (by kernel_rfl) (by kernel_rfl) (by kernel_rfl) (by kernel_rfl)
/-! 25: (*rowlock/norec.Engine).Attempt -/
def b25 : AC :=
  (.seq (.reg [⟨(some 4), (.op (.mv (.k (.int .i64 0)))), none⟩, ⟨(some 5), (.op (.mv (.k (.bool false)))), none⟩])
  (.seq (.seq (.reg [⟨(some 7), (.op (.mv (.t 0))), none⟩, ⟨(some 8), (.op (.mv (.t 1))), none⟩, ⟨(some 9), (.call (.f 46) [(.t 7), (.t 8)]), none⟩, ⟨(some 6), (.op (.mv (.t 9))), none⟩])
  (.seq (.reg [⟨(some 10), (.op (.mv (.t 6))), none⟩, ⟨(some 11), (.op (.eq true .ptr (.t 10) (.k (.pointer none)))), none⟩])
  (.cond (.t 11) (.seq (.reg [⟨(some 12), (.op (.mv (.t 6))), none⟩, ⟨(some 13), (.op (.nilchk (.t 12))), none⟩, ⟨(some 14), (.op (.faddr 2 (.t 13))), none⟩, ⟨(some 15), (.op (.load (.t 14))), none⟩, ⟨(some 4), (.op (.mv (.t 15))), none⟩, ⟨(some 5), (.op (.mv (.k (.bool true)))), none⟩])
  .ret)
  .skip)))
  (.seq (.reg [⟨(some 4), (.op (.mv (.k (.int .i64 0)))), none⟩, ⟨(some 5), (.op (.mv (.k (.bool false)))), none⟩])
  .ret)))
def a25 : AF := ⟨16, [(.t 4), (.t 5)], .code b25, none⟩
theorem ok25 : AFOk Tryz.prog ext 25 a25 := .of Tryz.func25 (by kernel_rfl) (by kernel_rfl) (by kernel_rfl) (by kernel_rfl)
/-! 26: (*rowlock/norec.Engine).Asked -/
def b26 : AC :=
  (.seq (.reg [⟨(some 4), (.op (.alloc 51 [(.int .u8 0), (.int .i64 0), (.int .u64 0)])), none⟩, ⟨(some 5), (.op (.mv (.k (.bool false)))), none⟩])
  (.seq (.seq (.reg [⟨(some 7), (.op (.mv (.t 0))), none⟩, ⟨(some 8), (.op (.mv (.t 1))), none⟩, ⟨(some 9), (.call (.f 46) [(.t 7), (.t 8)]), none⟩, ⟨(some 6), (.op (.mv (.t 9))), none⟩])
  (.seq (.reg [⟨(some 10), (.op (.mv (.t 6))), none⟩, ⟨(some 11), (.op (.eq true .ptr (.t 10) (.k (.pointer none)))), none⟩])
  (.cond (.t 11) (.seq (.dreg (.quiet ⟨(some 12), (.op (.mv (.t 6))), none⟩ (.quiet ⟨(some 13), (.op (.nilchk (.t 12))), none⟩ (.quiet ⟨(some 14), (.op (.faddr 4 (.t 13))), none⟩ (.quiet ⟨(some 15), (.op (.loadN 3 (.t 14))), none⟩ (.quiet ⟨(some 16), (.op (.mv (.t 6))), none⟩ (.quiet ⟨(some 17), (.op (.nilchk (.t 16))), none⟩ (.quiet ⟨(some 18), (.op (.faddr 4 (.t 17))), none⟩ (.quiet ⟨(some 19), (.op (.faddr 0 (.t 18))), none⟩ (.quiet ⟨(some 20), (.op (.load (.t 19))), none⟩ (.quiet ⟨(some 21), (.op (.bin .neq (.t 20) (.k (.int .u8 0)))), none⟩ (.loud ⟨none, (.op (.store 3 (.t 4) (.t 15))), none⟩ [⟨(some 20), (.op (.load (.t 19))), none⟩] (.loud ⟨(some 5), (.op (.mv (.t 21))), none⟩ [] .nil)))))))))))))
  .ret)
  .skip)))
  (.seq (.reg [⟨(some 22), (.op (.build [(.int .u8 0), (.int .i64 0), (.int .u64 0)] [])), none⟩, ⟨none, (.op (.store 3 (.t 4) (.t 22))), none⟩, ⟨(some 5), (.op (.mv (.k (.bool false)))), none⟩])
  .ret)))
def a26 : AF := ⟨23, [(.c 4 true 3), (.t 5)], .code b26, none⟩
theorem ok26 : AFOk Tryz.prog ext 26 a26 := .of Tryz.func26 (by kernel_rfl) (by kernel_rfl) (by kernel_rfl) (by kernel_rfl)
/-! 27: (*rowlock/norec.Engine).Ask -/
def b27 : AC :=
  (.seq (.reg [⟨(some 5), (.op (.box 51 (.t 2))), none⟩, ⟨(some 6), (.op (.mv (.k (.int .i64 0)))), none⟩])
  (.seq (.seq (.reg [⟨(some 10), (.op (.mv (.t 0))), none⟩, ⟨(some 11), (.op (.mv (.t 1))), none⟩, ⟨(some 12), (.call (.f 79) [(.t 10), (.t 11)]), none⟩, ⟨(some 7), (.op (.mv (.t 12))), none⟩])
  (.seq (.reg [⟨(some 13), (.op (.mv (.t 7))), none⟩, ⟨(some 14), (.op (.bin .neq (.t 13) (.k (.int .i64 0)))), none⟩])
  (.cond (.t 14) (.seq (.reg [⟨(some 15), (.op (.mv (.t 7))), none⟩, ⟨(some 6), (.op (.mv (.t 15))), none⟩])
  .ret)
  .skip)))
  (.seq (.reg [⟨(some 16), (.op (.mv (.t 0))), none⟩, ⟨(some 17), (.op (.nilchk (.t 16))), none⟩, ⟨(some 18), (.op (.faddr 2 (.t 17))), none⟩, ⟨(some 19), (.op (.load (.t 18))), none⟩, ⟨(some 20), (.op (.mv (.t 1))), none⟩, ⟨(some 21), (.op (.lookup false (.pointer none) false (.t 19) (.t 20))), none⟩, ⟨(some 8), (.op (.mv (.t 21))), none⟩])
  (.seq (.seq (.reg [⟨(some 22), (.op (.mv (.t 8))), none⟩, ⟨(some 23), (.op (.eq false .ptr (.t 22) (.k (.pointer none)))), none⟩])
  (.cond (.t 23) (.seq (.reg [⟨(some 6), (.op (.mv (.k (.int .i64 8)))), none⟩])
  .ret)
  .skip))
  (.seq (.seq (.reg [⟨(some 24), (.op (.mv (.t 8))), none⟩, ⟨(some 25), (.op (.nilchk (.t 24))), none⟩, ⟨(some 26), (.op (.faddr 4 (.t 25))), none⟩, ⟨(some 27), (.op (.faddr 0 (.t 26))), none⟩, ⟨(some 28), (.op (.load (.t 27))), none⟩, ⟨(some 29), (.op (.bin .neq (.t 28) (.k (.int .u8 0)))), none⟩])
  (.cond (.t 29) (.seq (.reg [⟨(some 6), (.op (.mv (.k (.int .i64 7)))), none⟩])
  .ret)
  .skip))
  (.seq (.reg [⟨(some 30), (.op (.mv (.t 0))), none⟩, ⟨(some 31), (.op (.mv (.t 8))), none⟩, ⟨(some 32), (.op (.loadN 3 (.t 5))), none⟩, ⟨(some 33), (.call (.f 84) [(.t 30), (.t 31), (.t 32)]), none⟩, ⟨(some 9), (.op (.mv (.t 33))), none⟩])
  (.seq (.seq (.reg [⟨(some 34), (.op (.mv (.t 9))), none⟩, ⟨(some 35), (.op (.bin .eql (.t 34) (.k (.int .i64 0)))), none⟩])
  (.cond (.t 35) (.reg [⟨(some 36), (.op (.mv (.t 8))), none⟩, ⟨(some 37), (.op (.mv (.t 8))), none⟩, ⟨(some 38), (.op (.mv (.t 8))), none⟩, ⟨(some 39), (.op (.loadN 3 (.t 5))), none⟩, ⟨(some 40), (.op (.nilchk (.t 36))), none⟩, ⟨(some 41), (.op (.faddr 4 (.t 40))), none⟩, ⟨none, (.op (.store 3 (.t 41) (.t 39))), none⟩, ⟨(some 42), (.op (.nilchk (.t 37))), none⟩, ⟨(some 43), (.op (.faddr 7 (.t 42))), none⟩, ⟨none, (.op (.store 1 (.t 43) (.k (.int .i64 0)))), none⟩, ⟨(some 44), (.op (.nilchk (.t 38))), none⟩, ⟨(some 45), (.op (.faddr 9 (.t 44))), none⟩, ⟨none, (.op (.store 1 (.t 45) (.k (.int .i64 0)))), none⟩])
  .skip))
  (.seq (.reg [⟨(some 46), (.op (.mv (.t 9))), none⟩, ⟨(some 6), (.op (.mv (.t 46))), none⟩])
  .ret))))))))
def a27 : AF := ⟨47, [(.t 6)], .code b27, none⟩
theorem ok27 : AFOk Tryz.prog ext 27 a27 := .of Tryz.func27 (by kernel_rfl) (by kernel_rfl) (by kernel_rfl) (by kernel_rfl)
/-! 28: (*rowlock/norec.Engine).Step -/
def b28 : AC :=
  (.seq (.reg [⟨(some 4), (.op (.alloc 63 [(.bool false), (.int .u64 0), (.bool false), (.int .i64 0), (.bool false), (.int .u8 0), (.int .i64 0)])), none⟩])
  (.seq (.seq (.reg [⟨(some 9), (.op (.mv (.t 0))), none⟩, ⟨(some 10), (.op (.mv (.t 1))), none⟩, ⟨(some 11), (.call (.f 79) [(.t 9), (.t 10)]), none⟩, ⟨(some 5), (.op (.mv (.t 11))), none⟩])
  (.seq (.reg [⟨(some 12), (.op (.mv (.t 5))), none⟩, ⟨(some 13), (.op (.bin .neq (.t 12) (.k (.int .i64 0)))), none⟩])
  (.cond (.t 13) (.seq (.reg [⟨(some 14), (.op (.mv (.t 5))), none⟩, ⟨(some 15), (.op (.build [(.bool false), (.int .u64 0), (.bool false), (.int .i64 0), (.bool false), (.int .u8 0), (.int .i64 0)] [(6, 1, (.t 14))])), none⟩, ⟨none, (.op (.store 7 (.t 4) (.t 15))), none⟩])
  .ret)
  .skip)))
  (.seq (.reg [⟨(some 16), (.op (.mv (.t 0))), none⟩, ⟨(some 17), (.op (.nilchk (.t 16))), none⟩, ⟨(some 18), (.op (.faddr 2 (.t 17))), none⟩, ⟨(some 19), (.op (.load (.t 18))), none⟩, ⟨(some 20), (.op (.mv (.t 1))), none⟩, ⟨(some 21), (.op (.lookup false (.pointer none) false (.t 19) (.t 20))), none⟩, ⟨(some 6), (.op (.mv (.t 21))), none⟩])
  (.seq (.seq (.reg [⟨(some 22), (.op (.mv (.t 6))), none⟩, ⟨(some 23), (.op (.eq false .ptr (.t 22) (.k (.pointer none)))), none⟩, ⟨(some 24), (.op (.mv (.t 23))), none⟩, ⟨(some 25), (.op (.mv (.t 6))), (some (24, false))⟩, ⟨(some 26), (.op (.nilchk (.t 25))), (some (24, false))⟩, ⟨(some 27), (.op (.faddr 4 (.t 26))), (some (24, false))⟩, ⟨(some 28), (.op (.faddr 0 (.t 27))), (some (24, false))⟩, ⟨(some 29), (.op (.load (.t 28))), (some (24, false))⟩, ⟨(some 30), (.op (.bin .eql (.t 29) (.k (.int .u8 0)))), (some (24, false))⟩, ⟨(some 31), (.op (.pick (.t 24) (.k (.bool true)) (.t 30))), none⟩])
  (.cond (.t 31) (.seq (.reg [⟨(some 32), (.op (.build [(.bool false), (.int .u64 0), (.bool false), (.int .i64 0), (.bool false), (.int .u8 0), (.int .i64 0)] [(6, 1, (.k (.int .i64 8)))])), none⟩, ⟨none, (.op (.store 7 (.t 4) (.t 32))), none⟩])
  .ret)
  .skip))
  (.seq (.seq (.reg [⟨(some 33), (.op (.mv (.t 6))), none⟩, ⟨(some 34), (.op (.nilchk (.t 33))), none⟩, ⟨(some 35), (.op (.faddr 7 (.t 34))), none⟩, ⟨(some 36), (.op (.load (.t 35))), none⟩, ⟨(some 37), (.op (.bin .geq (.t 36) (.k (.int .i64 4)))), none⟩])
  (.cond (.t 37) (.seq (.reg [⟨(some 38), (.op (.mv (.t 0))), none⟩, ⟨(some 39), (.op (.mv (.t 1))), none⟩, ⟨(some 40), (.op (.mv (.t 6))), none⟩, ⟨(some 41), (.call (.f 85) [(.t 38), (.t 39), (.t 40)]), none⟩, ⟨none, (.op (.store 7 (.t 4) (.t 41))), none⟩])
  .ret)
  .skip))
  (.seq (.seq (.reg [⟨(some 42), (.op (.mv (.t 6))), none⟩, ⟨(some 43), (.op (.nilchk (.t 42))), none⟩, ⟨(some 44), (.op (.faddr 4 (.t 43))), none⟩, ⟨(some 45), (.op (.faddr 0 (.t 44))), none⟩, ⟨(some 46), (.op (.load (.t 45))), none⟩])
  (.block 0 (.seq (.reg [⟨(some 48), (.op (.bin .eql (.t 46) (.k (.int .u8 7)))), none⟩, ⟨(some 47), (.op (.mv (.t 48))), none⟩])
  (.cond (.t 47) (.seq (.reg [⟨(some 49), (.op (.mv (.t 0))), none⟩, ⟨(some 50), (.op (.mv (.t 1))), none⟩, ⟨(some 51), (.call (.f 86) [(.t 49), (.t 50), (.k (.int .u8 4))]), none⟩, ⟨none, (.op (.store 7 (.t 4) (.t 51))), none⟩])
  .ret)
  (.seq (.reg [⟨(some 53), (.op (.bin .eql (.t 46) (.k (.int .u8 6)))), none⟩, ⟨(some 52), (.op (.mv (.t 53))), none⟩])
  (.cond (.t 52) (.seq (.reg [⟨(some 54), (.op (.mv (.t 0))), none⟩, ⟨(some 55), (.op (.mv (.t 1))), none⟩, ⟨(some 56), (.op (.mv (.t 6))), none⟩, ⟨(some 57), (.call (.f 87) [(.t 54), (.t 55), (.t 56)]), none⟩, ⟨none, (.op (.store 7 (.t 4) (.t 57))), none⟩])
  .ret)
  (.seq (.reg [⟨(some 59), (.op (.bin .eql (.t 46) (.k (.int .u8 1)))), none⟩, ⟨(some 58), (.op (.mv (.t 59))), none⟩])
  (.cond (.t 58) (.seq (.seq (.dreg (.quiet ⟨(some 61), (.op (.mv (.t 6))), none⟩ (.quiet ⟨(some 62), (.op (.nilchk (.t 61))), none⟩ (.quiet ⟨(some 63), (.op (.faddr 1 (.t 62))), none⟩ (.quiet ⟨(some 64), (.op (.load (.t 63))), none⟩ (.quiet ⟨(some 65), (.op (.mv (.t 6))), none⟩ (.quiet ⟨(some 66), (.op (.nilchk (.t 65))), none⟩ (.quiet ⟨(some 67), (.op (.faddr 4 (.t 66))), none⟩ (.quiet ⟨(some 68), (.op (.faddr 1 (.t 67))), none⟩ (.quiet ⟨(some 69), (.op (.load (.t 68))), none⟩ (.loud ⟨(some 70), (.call (.f 88) [(.t 64), (.t 69)]), none⟩ [] (.quiet ⟨(some 60), (.op (.mv (.t 70))), none⟩ (.quiet ⟨(some 71), (.op (.extract (.t 60) 0)), none⟩ (.quiet ⟨(some 72), (.op (.extract (.t 60) 1)), none⟩ (.loud ⟨(some 7), (.op (.mv (.t 71))), none⟩ [] (.loud ⟨(some 8), (.op (.mv (.t 72))), none⟩ [] .nil))))))))))))))))
  (.seq (.reg [⟨(some 73), (.op (.mv (.t 8))), none⟩])
  (.cond (.t 73) (.seq (.reg [⟨(some 74), (.op (.mv (.t 0))), none⟩, ⟨(some 75), (.op (.mv (.t 6))), none⟩, ⟨(some 76), (.op (.mv (.t 7))), none⟩, ⟨(some 77), (.call (.f 89) [(.t 74), (.t 75), (.t 76)]), none⟩, ⟨none, (.op (.store 7 (.t 4) (.t 77))), none⟩])
  .ret)
  .skip)))
  (.seq (.reg [⟨(some 78), (.op (.mv (.t 0))), none⟩, ⟨(some 79), (.op (.mv (.t 1))), none⟩, ⟨(some 80), (.op (.mv (.t 6))), none⟩, ⟨(some 81), (.call (.f 90) [(.t 78), (.t 79), (.t 80)]), none⟩, ⟨none, (.op (.store 7 (.t 4) (.t 81))), none⟩])
  .ret))
  .skip))))))))
  (.seq (.reg [⟨(some 82), (.op (.mv (.t 0))), none⟩, ⟨(some 83), (.op (.mv (.t 1))), none⟩, ⟨(some 84), (.op (.mv (.t 6))), none⟩, ⟨(some 85), (.call (.f 91) [(.t 82), (.t 83), (.t 84)]), none⟩, ⟨none, (.op (.store 7 (.t 4) (.t 85))), none⟩])
  .ret)))))))
def a28 : AF := ⟨86, [(.c 4 true 7)], .code b28, none⟩
theorem ok28 : AFOk Tryz.prog ext 28 a28 := .of Tryz.func28 (by kernel_rfl) (by kernel_rfl) (by kernel_rfl) (by kernel_rfl)
/-! 29: (*rowlock/norec.Engine).Kill -/
def b29 : AC :=
  (.seq (.reg [⟨(some 4), (.op (.mv (.k (.int .i64 0)))), none⟩])
  (.seq (.seq (.reg [⟨(some 7), (.op (.mv (.t 0))), none⟩, ⟨(some 8), (.op (.mv (.t 1))), none⟩, ⟨(some 9), (.call (.f 79) [(.t 7), (.t 8)]), none⟩, ⟨(some 5), (.op (.mv (.t 9))), none⟩])
  (.seq (.reg [⟨(some 10), (.op (.mv (.t 5))), none⟩, ⟨(some 11), (.op (.bin .neq (.t 10) (.k (.int .i64 0)))), none⟩])
  (.cond (.t 11) (.seq (.reg [⟨(some 12), (.op (.mv (.t 5))), none⟩, ⟨(some 4), (.op (.mv (.t 12))), none⟩])
  .ret)
  .skip)))
  (.seq (.reg [⟨(some 13), (.op (.mv (.t 0))), none⟩, ⟨(some 14), (.op (.nilchk (.t 13))), none⟩, ⟨(some 15), (.op (.faddr 2 (.t 14))), none⟩, ⟨(some 16), (.op (.load (.t 15))), none⟩, ⟨(some 17), (.op (.mv (.t 1))), none⟩, ⟨(some 18), (.op (.lookup false (.pointer none) false (.t 16) (.t 17))), none⟩, ⟨(some 6), (.op (.mv (.t 18))), none⟩])
  (.seq (.seq (.reg [⟨(some 19), (.op (.mv (.t 6))), none⟩, ⟨(some 20), (.op (.eq false .ptr (.t 19) (.k (.pointer none)))), none⟩, ⟨(some 21), (.op (.mv (.t 20))), none⟩, ⟨(some 22), (.op (.mv (.t 6))), (some (21, false))⟩, ⟨(some 23), (.op (.nilchk (.t 22))), (some (21, false))⟩, ⟨(some 24), (.op (.faddr 12 (.t 23))), (some (21, false))⟩, ⟨(some 25), (.op (.load (.t 24))), (some (21, false))⟩, ⟨(some 26), (.op (.pick (.t 21) (.k (.bool true)) (.t 25))), none⟩])
  (.cond (.t 26) (.seq (.reg [⟨(some 4), (.op (.mv (.k (.int .i64 8)))), none⟩])
  .ret)
  .skip))
  (.seq (.reg [⟨(some 27), (.op (.mv (.t 0))), none⟩, ⟨(some 28), (.op (.mv (.t 1))), none⟩, ⟨(some 29), (.call (.f 86) [(.t 27), (.t 28), (.k (.int .u8 3))]), none⟩])
  (.seq (.reg [⟨(some 4), (.op (.mv (.k (.int .i64 0)))), none⟩])
  .ret))))))
def a29 : AF := ⟨30, [(.t 4)], .code b29, none⟩
theorem ok29 : AFOk Tryz.prog ext 29 a29 := .of Tryz.func29 (by kernel_rfl) (by kernel_rfl) (by kernel_rfl) (by kernel_rfl)
/-! 30: (*rowlock/norec.Engine).Why -/
def b30 : AC :=
  (.seq (.reg [⟨(some 4), (.op (.mv (.k (.int .u8 0)))), none⟩])
  (.seq (.seq (.reg [⟨(some 5), (.op (.mv (.t 0))), none⟩, ⟨(some 6), (.op (.eq false .ptr (.t 5) (.k (.pointer none)))), none⟩, ⟨(some 7), (.op (.mv (.t 6))), none⟩, ⟨(some 8), (.op (.mv (.t 1))), (some (7, false))⟩, ⟨(some 9), (.op (.bin .lss (.t 8) (.k (.int .i64 0)))), (some (7, false))⟩, ⟨(some 10), (.op (.pick (.t 7) (.k (.bool true)) (.t 9))), none⟩, ⟨(some 11), (.op (.mv (.t 10))), none⟩, ⟨(some 12), (.op (.mv (.t 1))), (some (11, false))⟩, ⟨(some 13), (.op (.mv (.t 0))), (some (11, false))⟩, ⟨(some 14), (.op (.nilchk (.t 13))), (some (11, false))⟩, ⟨(some 15), (.op (.faddr 5 (.t 14))), (some (11, false))⟩, ⟨(some 16), (.op (.load (.t 15))), (some (11, false))⟩, ⟨(some 17), (.op (.lenS (.t 16))), (some (11, false))⟩, ⟨(some 18), (.op (.bin .geq (.t 12) (.t 17))), (some (11, false))⟩, ⟨(some 19), (.op (.pick (.t 11) (.k (.bool true)) (.t 18))), none⟩])
  (.cond (.t 19) (.seq (.reg [⟨(some 4), (.op (.mv (.k (.int .u8 0)))), none⟩])
  .ret)
  .skip))
  (.seq (.reg [⟨(some 20), (.op (.mv (.t 0))), none⟩, ⟨(some 21), (.op (.nilchk (.t 20))), none⟩, ⟨(some 22), (.op (.faddr 5 (.t 21))), none⟩, ⟨(some 23), (.op (.load (.t 22))), none⟩, ⟨(some 24), (.op (.mv (.t 1))), none⟩, ⟨(some 25), (.op (.iaddrS 1 (.t 23) (.t 24))), none⟩, ⟨(some 26), (.op (.load (.t 25))), none⟩, ⟨(some 4), (.op (.mv (.t 26))), none⟩])
  .ret)))
def a30 : AF := ⟨27, [(.t 4)], .code b30, none⟩
theorem ok30 : AFOk Tryz.prog ext 30 a30 := .of Tryz.func30 (by kernel_rfl) (by kernel_rfl) (by kernel_rfl) (by kernel_rfl)
/-! 31: (*rowlock/norec.Engine).Reads -/
def b31 : AC :=
  (.seq (.reg [⟨(some 4), (.op (.mv (.k (.slice none 0 0)))), none⟩])
  (.seq (.seq (.reg [⟨(some 6), (.op (.mv (.t 0))), none⟩, ⟨(some 7), (.op (.mv (.t 1))), none⟩, ⟨(some 8), (.call (.f 46) [(.t 6), (.t 7)]), none⟩, ⟨(some 5), (.op (.mv (.t 8))), none⟩])
  (.seq (.reg [⟨(some 9), (.op (.mv (.t 5))), none⟩, ⟨(some 10), (.op (.eq true .ptr (.t 9) (.k (.pointer none)))), none⟩])
  (.cond (.t 10) (.seq (.reg [⟨(some 11), (.op (.mv (.t 5))), none⟩, ⟨(some 12), (.op (.nilchk (.t 11))), none⟩, ⟨(some 13), (.op (.faddr 0 (.t 12))), none⟩, ⟨(some 14), (.op (.load (.t 13))), none⟩, ⟨(some 15), (.call (.f 92) [(.t 14)]), none⟩, ⟨(some 4), (.op (.mv (.t 15))), none⟩])
  .ret)
  .skip)))
  (.seq (.reg [⟨(some 4), (.op (.mv (.k (.slice none 0 0)))), none⟩])
  .ret)))
def a31 : AF := ⟨16, [(.t 4)], .code b31, none⟩
theorem ok31 : AFOk Tryz.prog ext 31 a31 := .of Tryz.func31 (by kernel_rfl) (by kernel_rfl) (by kernel_rfl) (by kernel_rfl)
/-! 32: (*rowlock/norec.Engine).Writes -/
def b32 : AC :=
  (.seq (.reg [⟨(some 4), (.op (.mv (.k (.slice none 0 0)))), none⟩])
  (.seq (.seq (.reg [⟨(some 6), (.op (.mv (.t 0))), none⟩, ⟨(some 7), (.op (.mv (.t 1))), none⟩, ⟨(some 8), (.call (.f 46) [(.t 6), (.t 7)]), none⟩, ⟨(some 5), (.op (.mv (.t 8))), none⟩])
  (.seq (.reg [⟨(some 9), (.op (.mv (.t 5))), none⟩, ⟨(some 10), (.op (.eq true .ptr (.t 9) (.k (.pointer none)))), none⟩])
  (.cond (.t 10) (.seq (.reg [⟨(some 11), (.op (.mv (.t 5))), none⟩, ⟨(some 12), (.op (.nilchk (.t 11))), none⟩, ⟨(some 13), (.op (.faddr 1 (.t 12))), none⟩, ⟨(some 14), (.op (.load (.t 13))), none⟩, ⟨(some 15), (.call (.f 93) [(.t 14)]), none⟩, ⟨(some 4), (.op (.mv (.t 15))), none⟩])
  .ret)
  .skip)))
  (.seq (.reg [⟨(some 4), (.op (.mv (.k (.slice none 0 0)))), none⟩])
  .ret)))
def a32 : AF := ⟨16, [(.t 4)], .code b32, none⟩
theorem ok32 : AFOk Tryz.prog ext 32 a32 := .of Tryz.func32 (by kernel_rfl) (by kernel_rfl) (by kernel_rfl) (by kernel_rfl)
/-! 33: (*rowlock/norec.Engine).Holds -/
def b33 : AC :=
  (.seq (.reg [⟨(some 4), (.op (.mv (.k (.bool false)))), none⟩])
  (.seq (.seq (.reg [⟨(some 7), (.op (.mv (.t 0))), none⟩, ⟨(some 8), (.op (.eq false .ptr (.t 7) (.k (.pointer none)))), none⟩])
  (.cond (.t 8) (.seq (.reg [⟨(some 4), (.op (.mv (.k (.bool false)))), none⟩])
  .ret)
  .skip))
  (.seq (.reg [⟨(some 10), (.op (.mv (.t 0))), none⟩, ⟨(some 11), (.op (.nilchk (.t 10))), none⟩, ⟨(some 12), (.op (.faddr 0 (.t 11))), none⟩, ⟨(some 13), (.op (.load (.t 12))), none⟩, ⟨(some 14), (.call (.f 94) [(.t 13)]), none⟩, ⟨(some 9), (.op (.mv (.t 14))), none⟩, ⟨(some 15), (.op (.extract (.t 9) 0)), none⟩, ⟨(some 16), (.op (.extract (.t 9) 1)), none⟩, ⟨(some 5), (.op (.mv (.t 15))), none⟩, ⟨(some 6), (.op (.mv (.t 16))), none⟩])
  (.seq (.reg [⟨(some 17), (.op (.mv (.t 6))), none⟩, ⟨(some 18), (.op (.mv (.t 17))), none⟩, ⟨(some 19), (.op (.mv (.t 5))), (some (18, true))⟩, ⟨(some 20), (.op (.mv (.t 1))), (some (18, true))⟩, ⟨(some 21), (.op (.bin .eql (.t 19) (.t 20))), (some (18, true))⟩, ⟨(some 22), (.op (.pick (.t 18) (.t 21) (.k (.bool false)))), none⟩, ⟨(some 4), (.op (.mv (.t 22))), none⟩])
  .ret))))
def a33 : AF := ⟨23, [(.t 4)], .code b33, none⟩
theorem ok33 : AFOk Tryz.prog ext 33 a33 := .of Tryz.func33 (by kernel_rfl) (by kernel_rfl) (by kernel_rfl) (by kernel_rfl)
/-! 34: (*rowlock/norec.Engine).Valid -/
def b34 : AC :=
  (.seq (.reg [⟨(some 4), (.op (.mv (.k (.bool false)))), none⟩])
  (.seq (.reg [⟨(some 8), (.op (.mv (.t 0))), none⟩, ⟨(some 9), (.op (.mv (.t 1))), none⟩, ⟨(some 10), (.call (.f 46) [(.t 8), (.t 9)]), none⟩, ⟨(some 5), (.op (.mv (.t 10))), none⟩])
  (.seq (.seq (.reg [⟨(some 11), (.op (.mv (.t 5))), none⟩, ⟨(some 12), (.op (.eq false .ptr (.t 11) (.k (.pointer none)))), none⟩])
  (.cond (.t 12) (.seq (.reg [⟨(some 4), (.op (.mv (.k (.bool false)))), none⟩])
  .ret)
  .skip))
  (.seq (.reg [⟨(some 14), (.op (.mv (.t 0))), none⟩, ⟨(some 15), (.op (.nilchk (.t 14))), none⟩, ⟨(some 16), (.op (.faddr 0 (.t 15))), none⟩, ⟨(some 17), (.op (.load (.t 16))), none⟩, ⟨(some 18), (.call (.f 94) [(.t 17)]), none⟩, ⟨(some 13), (.op (.mv (.t 18))), none⟩, ⟨(some 19), (.op (.extract (.t 13) 0)), none⟩, ⟨(some 20), (.op (.extract (.t 13) 1)), none⟩, ⟨(some 6), (.op (.mv (.t 19))), none⟩, ⟨(some 7), (.op (.mv (.t 20))), none⟩])
  (.seq (.dreg (.quiet ⟨(some 21), (.op (.mv (.t 7))), none⟩ (.quiet ⟨(some 22), (.op (.un .not (.t 21))), none⟩ (.quiet ⟨(some 23), (.op (.mv (.t 22))), none⟩ (.quiet ⟨(some 24), (.op (.mv (.t 5))), (some (23, true))⟩ (.quiet ⟨(some 25), (.op (.nilchk (.t 24))), (some (23, true))⟩ (.quiet ⟨(some 26), (.op (.faddr 0 (.t 25))), (some (23, true))⟩ (.quiet ⟨(some 27), (.op (.load (.t 26))), (some (23, true))⟩ (.quiet ⟨(some 28), (.op (.mv (.t 0))), (some (23, true))⟩ (.quiet ⟨(some 29), (.op (.nilchk (.t 28))), (some (23, true))⟩ (.quiet ⟨(some 30), (.op (.faddr 1 (.t 29))), (some (23, true))⟩ (.quiet ⟨(some 31), (.op (.load (.t 30))), (some (23, true))⟩ (.loud ⟨(some 32), (.call (.f 95) [(.t 27), (.t 31)]), (some (23, true))⟩ [] (.quiet ⟨(some 33), (.op (.pick (.t 23) (.t 32) (.k (.bool false)))), none⟩ (.loud ⟨(some 4), (.op (.mv (.t 33))), none⟩ [] .nil)))))))))))))))
  .ret)))))
def a34 : AF := ⟨34, [(.t 4)], .code b34, none⟩
theorem ok34 : AFOk Tryz.prog ext 34 a34 := .of Tryz.func34 (by kernel_rfl) (by kernel_rfl) (by kernel_rfl) (by kernel_rfl)
/-! 35: rowlock/norec.New -/
def b35 : AC :=
  (.seq (.reg [⟨(some 2), (.op (.mv (.k (.pointer none)))), none⟩])
  (.seq (.seq (.reg [⟨(some 5), (.op (.mv (.t 0))), none⟩, ⟨(some 6), (.op (.lenS (.t 5))), none⟩, ⟨(some 7), (.op (.bin .lss (.t 6) (.k (.int .i64 1)))), none⟩, ⟨(some 8), (.op (.mv (.t 7))), none⟩, ⟨(some 9), (.op (.mv (.t 0))), (some (8, false))⟩, ⟨(some 10), (.op (.lenS (.t 9))), (some (8, false))⟩, ⟨(some 11), (.op (.bin .gtr (.t 10) (.k (.int .i64 12)))), (some (8, false))⟩, ⟨(some 12), (.op (.pick (.t 8) (.k (.bool true)) (.t 11))), none⟩])
  (.cond (.t 12) (.seq (.reg [⟨(some 2), (.op (.mv (.k (.pointer none)))), none⟩])
  .ret)
  .skip))
  (.seq (.seq (.reg [⟨(some 13), (.op (.mv (.t 0))), none⟩, ⟨(some 14), (.op (.lenS (.t 13))), none⟩, ⟨(some 15), (.op (.mv (.k (.int .i64 0)))), none⟩])
  (.block 0 (.loop (.seq (.reg [⟨(some 16), (.op (.bin .lss (.t 15) (.t 14))), none⟩])
   (.seq (.cond (.t 16) .skip
   (.exit 0))
   (.seq (.block 1 (.seq (.reg [⟨(some 17), (.op (.iaddrS 1 (.t 13) (.t 15))), none⟩, ⟨(some 18), (.op (.load (.t 17))), none⟩, ⟨(some 4), (.op (.mv (.t 18))), none⟩])
   (.seq (.reg [⟨(some 19), (.op (.mv (.t 4))), none⟩, ⟨(some 20), (.call (.f 96) [(.t 19)]), none⟩, ⟨(some 21), (.op (.un .not (.t 20))), none⟩])
   (.cond (.t 21) (.seq (.reg [⟨(some 2), (.op (.mv (.k (.pointer none)))), none⟩])
   .ret)
   .skip))))
   (.reg [⟨(some 22), (.op (.bin .add (.t 15) (.k (.int .i64 1)))), none⟩, ⟨(some 15), (.op (.mv (.t 22))), none⟩])))))))
  (.seq (.reg [⟨(some 23), (.call (.f 97) []), none⟩, ⟨(some 24), (.op (.mv (.t 0))), none⟩, ⟨(some 25), (.call (.f 48) [(.t 24)]), none⟩, ⟨(some 26), (.op (.mkmap)), none⟩, ⟨(some 27), (.op (.build [(.pointer none), (.slice none 0 0), (.map none), (.slice none 0 0), (.slice none 0 0), (.slice none 0 0)] [(0, 1, (.t 23)), (1, 1, (.t 25)), (2, 1, (.t 26))])), none⟩, ⟨(some 28), (.op (.box 90 (.t 27))), none⟩, ⟨(some 2), (.op (.mv (.t 28))), none⟩])
  .ret))))
def a35 : AF := ⟨29, [(.t 2)], .code b35, none⟩
theorem ok35 : AFOk Tryz.prog ext 35 a35 := .of Tryz.func35 (by kernel_rfl) (by kernel_rfl) (by kernel_rfl) (by kernel_rfl)
/-! 36: rowlock/rowlockref10.Heaped -/
def b36 : AC :=
  (.seq (.reg [⟨(some 2), (.op (.mv (.k (.bool false)))), none⟩])
  (.seq (.seq (.reg [⟨(some 4), (.op (.mv (.t 0))), none⟩, ⟨(some 5), (.op (.lenS (.t 4))), none⟩, ⟨(some 6), (.op (.bin .lss (.t 5) (.k (.int .i64 1)))), none⟩, ⟨(some 7), (.op (.mv (.t 6))), none⟩, ⟨(some 8), (.op (.mv (.t 0))), (some (7, false))⟩, ⟨(some 9), (.op (.lenS (.t 8))), (some (7, false))⟩, ⟨(some 10), (.op (.bin .gtr (.t 9) (.k (.int .i64 12)))), (some (7, false))⟩, ⟨(some 11), (.op (.pick (.t 7) (.k (.bool true)) (.t 10))), none⟩])
  (.cond (.t 11) (.seq (.reg [⟨(some 2), (.op (.mv (.k (.bool false)))), none⟩])
  .ret)
  .skip))
  (.seq (.seq (.reg [⟨(some 3), (.op (.mv (.k (.int .i64 0)))), none⟩])
  (.block 0 (.loop (.seq (.seq (.reg [⟨(some 12), (.op (.mv (.t 3))), none⟩, ⟨(some 13), (.op (.mv (.t 0))), none⟩, ⟨(some 14), (.op (.lenS (.t 13))), none⟩, ⟨(some 15), (.op (.bin .lss (.t 12) (.t 14))), none⟩])
   (.cond (.t 15) .skip
   (.exit 0)))
   (.seq (.block 1 (.seq (.reg [⟨(some 18), (.op (.mv (.t 0))), none⟩, ⟨(some 19), (.op (.mv (.t 3))), none⟩, ⟨(some 20), (.op (.iaddrS 1 (.t 18) (.t 19))), none⟩, ⟨(some 21), (.op (.load (.t 20))), none⟩, ⟨(some 22), (.call (.f 98) [(.t 21)]), none⟩, ⟨(some 23), (.op (.un .not (.t 22))), none⟩])
   (.cond (.t 23) (.seq (.reg [⟨(some 2), (.op (.mv (.k (.bool false)))), none⟩])
   .ret)
   .skip)))
   (.reg [⟨(some 16), (.op (.mv (.t 3))), none⟩, ⟨(some 17), (.op (.bin .add (.t 16) (.k (.int .i64 1)))), none⟩, ⟨(some 3), (.op (.mv (.t 17))), none⟩]))))))
  (.seq (.reg [⟨(some 2), (.op (.mv (.k (.bool true)))), none⟩])
  .ret))))
def a36 : AF := ⟨24, [(.t 2)], .code b36, none⟩
theorem ok36 : AFOk Tryz.prog ext 36 a36 := .of Tryz.func36 (by kernel_rfl) (by kernel_rfl) (by kernel_rfl) (by kernel_rfl)
/-! 42: slices.Clone[[]rowlock/api.Event,rowlock/api.Event] -/
def b42 : AC :=
  (.seq (.reg [⟨(some 2), (.op (.mv (.k (.slice none 0 0)))), none⟩])
  (.seq (.seq (.reg [⟨(some 3), (.op (.mv (.t 0))), none⟩, ⟨(some 4), (.isnil false (.t 3)), none⟩])
  (.cond (.t 4) (.seq (.reg [⟨(some 2), (.op (.mv (.k (.slice none 0 0)))), none⟩])
  .ret)
  .skip))
  (.seq (.reg [⟨(some 5), (.op (.bslice 84 [] 0 [])), none⟩, ⟨(some 6), (.op (.mv (.t 0))), none⟩, ⟨(some 7), (.op (.append 84 4 32 (.t 5) (.t 6))), none⟩, ⟨(some 2), (.op (.mv (.t 7))), none⟩])
  .ret)))
def a42 : AF := ⟨8, [(.t 2)], .code b42, none⟩
theorem ok42 : AFOk Tryz.prog ext 42 a42 := .of Tryz.func42 (by kernel_rfl) (by kernel_rfl) (by kernel_rfl) (by kernel_rfl)
/-! 44: (*rowlock/norec.Engine).Order$1 -/
def b44 : AC :=
  (.seq (.reg [⟨(some 5), (.op (.mv (.k (.int .i64 0)))), none⟩])
  (.seq (.dreg (.quiet ⟨(some 6), (.op (.load (.t 2))), none⟩ (.quiet ⟨(some 7), (.op (.nilchk (.t 6))), none⟩ (.quiet ⟨(some 8), (.op (.faddr 4 (.t 7))), none⟩ (.quiet ⟨(some 9), (.op (.load (.t 8))), none⟩ (.quiet ⟨(some 10), (.op (.mv (.t 0))), none⟩ (.quiet ⟨(some 11), (.op (.iaddrS 1 (.t 9) (.t 10))), none⟩ (.quiet ⟨(some 12), (.op (.load (.t 11))), none⟩ (.quiet ⟨(some 13), (.op (.load (.t 2))), none⟩ (.quiet ⟨(some 14), (.op (.nilchk (.t 13))), none⟩ (.quiet ⟨(some 15), (.op (.faddr 4 (.t 14))), none⟩ (.quiet ⟨(some 16), (.op (.load (.t 15))), none⟩ (.quiet ⟨(some 17), (.op (.mv (.t 1))), none⟩ (.quiet ⟨(some 18), (.op (.iaddrS 1 (.t 16) (.t 17))), none⟩ (.quiet ⟨(some 19), (.op (.load (.t 18))), none⟩ (.loud ⟨(some 20), (.call (.f 45) [(.t 12), (.t 19)]), none⟩ [] (.loud ⟨(some 5), (.op (.mv (.t 20))), none⟩ [] .nil)))))))))))))))))
  .ret))
def a44 : AF := ⟨21, [(.t 5)], .code b44, none⟩
theorem ok44 : AFOk Tryz.prog ext 44 a44 := .of Tryz.func44 (by kernel_rfl) (by kernel_rfl) (by kernel_rfl) (by kernel_rfl)
/-! 45: cmp.Compare[uint64] -/
def b45 : AC :=
  (.seq (.reg [⟨(some 4), (.op (.mv (.k (.int .i64 0)))), none⟩])
  (.seq (.reg [⟨(some 7), (.op (.mv (.t 0))), none⟩, ⟨(some 8), (.call (.f 105) [(.t 7)]), none⟩, ⟨(some 5), (.op (.mv (.t 8))), none⟩])
  (.seq (.reg [⟨(some 9), (.op (.mv (.t 1))), none⟩, ⟨(some 10), (.call (.f 105) [(.t 9)]), none⟩, ⟨(some 6), (.op (.mv (.t 10))), none⟩])
  (.seq (.seq (.reg [⟨(some 11), (.op (.mv (.t 5))), none⟩])
  (.cond (.t 11) (.seq (.seq (.reg [⟨(some 12), (.op (.mv (.t 6))), none⟩])
  (.cond (.t 12) (.seq (.reg [⟨(some 4), (.op (.mv (.k (.int .i64 0)))), none⟩])
  .ret)
  .skip))
  (.seq (.reg [⟨(some 4), (.op (.mv (.k (.int .i64 (-1))))), none⟩])
  .ret))
  .skip))
  (.seq (.seq (.reg [⟨(some 13), (.op (.mv (.t 6))), none⟩])
  (.cond (.t 13) (.seq (.reg [⟨(some 4), (.op (.mv (.k (.int .i64 1)))), none⟩])
  .ret)
  .skip))
  (.seq (.seq (.reg [⟨(some 14), (.op (.mv (.t 0))), none⟩, ⟨(some 15), (.op (.mv (.t 1))), none⟩, ⟨(some 16), (.op (.bin .lss (.t 14) (.t 15))), none⟩])
  (.cond (.t 16) (.seq (.reg [⟨(some 4), (.op (.mv (.k (.int .i64 (-1))))), none⟩])
  .ret)
  .skip))
  (.seq (.seq (.reg [⟨(some 17), (.op (.mv (.t 0))), none⟩, ⟨(some 18), (.op (.mv (.t 1))), none⟩, ⟨(some 19), (.op (.bin .gtr (.t 17) (.t 18))), none⟩])
  (.cond (.t 19) (.seq (.reg [⟨(some 4), (.op (.mv (.k (.int .i64 1)))), none⟩])
  .ret)
  .skip))
  (.seq (.reg [⟨(some 4), (.op (.mv (.k (.int .i64 0)))), none⟩])
  .ret))))))))
def a45 : AF := ⟨20, [(.t 4)], .code b45, none⟩
theorem ok45 : AFOk Tryz.prog ext 45 a45 := .of Tryz.func45 (by kernel_rfl) (by kernel_rfl) (by kernel_rfl) (by kernel_rfl)
/-! 46: (*rowlock/norec.Engine).of -/
def b46 : AC :=
  (.seq (.reg [⟨(some 4), (.op (.mv (.k (.pointer none)))), none⟩])
  (.seq (.seq (.reg [⟨(some 5), (.op (.mv (.t 0))), none⟩, ⟨(some 6), (.op (.eq false .ptr (.t 5) (.k (.pointer none)))), none⟩])
  (.cond (.t 6) (.seq (.reg [⟨(some 4), (.op (.mv (.k (.pointer none)))), none⟩])
  .ret)
  .skip))
  (.seq (.reg [⟨(some 7), (.op (.mv (.t 0))), none⟩, ⟨(some 8), (.op (.nilchk (.t 7))), none⟩, ⟨(some 9), (.op (.faddr 2 (.t 8))), none⟩, ⟨(some 10), (.op (.load (.t 9))), none⟩, ⟨(some 11), (.op (.mv (.t 1))), none⟩, ⟨(some 12), (.op (.lookup false (.pointer none) false (.t 10) (.t 11))), none⟩, ⟨(some 4), (.op (.mv (.t 12))), none⟩])
  .ret)))
def a46 : AF := ⟨13, [(.t 4)], .code b46, none⟩
theorem ok46 : AFOk Tryz.prog ext 46 a46 := .of Tryz.func46 (by kernel_rfl) (by kernel_rfl) (by kernel_rfl) (by kernel_rfl)
/-! 47: slices.Sort[[]int,int] -/
def b47 : AC :=
  (.seq (.reg [⟨(some 3), (.op (.mv (.t 0))), none⟩, ⟨(some 4), (.op (.lenS (.t 3))), none⟩, ⟨(some 2), (.op (.mv (.t 4))), none⟩])
  (.reg [⟨(some 5), (.op (.mv (.t 0))), none⟩, ⟨(some 6), (.op (.mv (.t 2))), none⟩, ⟨(some 7), (.op (.mv (.t 2))), none⟩, ⟨(some 8), (.op (.conv (.int .u64) (.t 7))), none⟩, ⟨(some 9), (.call (.f 107) [(.t 8)]), none⟩, ⟨(some 10), (.call (.f 106) [(.t 5), (.k (.int .i64 0)), (.t 6), (.t 9)]), none⟩]))
def a47 : AF := ⟨11, [], .code b47, none⟩
theorem ok47 : AFOk Tryz.prog ext 47 a47 := .of Tryz.func47 (by kernel_rfl) (by kernel_rfl) (by kernel_rfl) (by kernel_rfl)
/-! 48: slices.Clone[[]rowlock/api.Val,rowlock/api.Val] -/
def b48 : AC :=
  (.seq (.reg [⟨(some 2), (.op (.mv (.k (.slice none 0 0)))), none⟩])
  (.seq (.seq (.reg [⟨(some 3), (.op (.mv (.t 0))), none⟩, ⟨(some 4), (.isnil false (.t 3)), none⟩])
  (.cond (.t 4) (.seq (.reg [⟨(some 2), (.op (.mv (.k (.slice none 0 0)))), none⟩])
  .ret)
  .skip))
  (.seq (.reg [⟨(some 5), (.op (.bslice 49 [] 0 [])), none⟩, ⟨(some 6), (.op (.mv (.t 0))), none⟩, ⟨(some 7), (.op (.append 49 1 8 (.t 5) (.t 6))), none⟩, ⟨(some 2), (.op (.mv (.t 7))), none⟩])
  .ret)))
def a48 : AF := ⟨8, [(.t 2)], .code b48, none⟩
theorem ok48 : AFOk Tryz.prog ext 48 a48 := .of Tryz.func48 (by kernel_rfl) (by kernel_rfl) (by kernel_rfl) (by kernel_rfl)
/-! 49: (*rowlock/seqlock.Lock).Count -/
def b49 : AC :=
  (.seq (.reg [⟨(some 2), (.op (.mv (.k (.int .u64 0)))), none⟩])
  (.seq (.seq (.reg [⟨(some 3), (.op (.mv (.t 0))), none⟩, ⟨(some 4), (.op (.eq false .ptr (.t 3) (.k (.pointer none)))), none⟩])
  (.cond (.t 4) (.seq (.reg [⟨(some 2), (.op (.mv (.k (.int .u64 0)))), none⟩])
  .ret)
  .skip))
  (.seq (.reg [⟨(some 5), (.op (.mv (.t 0))), none⟩, ⟨(some 6), (.op (.nilchk (.t 5))), none⟩, ⟨(some 7), (.op (.faddr 1 (.t 6))), none⟩, ⟨(some 8), (.op (.load (.t 7))), none⟩, ⟨(some 2), (.op (.mv (.t 8))), none⟩])
  .ret)))
def a49 : AF := ⟨9, [(.t 2)], .code b49, none⟩
theorem ok49 : AFOk Tryz.prog ext 49 a49 := .of Tryz.func49 (by kernel_rfl) (by kernel_rfl) (by kernel_rfl) (by kernel_rfl)
/-! 67: (*rowlock/seqlock.Lock).Fork -/
def b67 : AC :=
  (.seq (.reg [⟨(some 2), (.op (.mv (.k (.pointer none)))), none⟩])
  (.seq (.seq (.reg [⟨(some 4), (.op (.mv (.t 0))), none⟩, ⟨(some 5), (.op (.eq false .ptr (.t 4) (.k (.pointer none)))), none⟩])
  (.cond (.t 5) (.seq (.reg [⟨(some 2), (.op (.mv (.k (.pointer none)))), none⟩])
  .ret)
  .skip))
  (.seq (.reg [⟨(some 6), (.op (.mv (.t 0))), none⟩, ⟨(some 7), (.op (.nilchk (.t 6))), none⟩, ⟨(some 8), (.op (.loadN 2 (.t 7))), none⟩, ⟨(some 3), (.op (.alloc 152 [(.pointer none), (.int .u64 0)])), none⟩, ⟨none, (.op (.store 2 (.t 3) (.t 8))), none⟩])
  (.seq (.reg [⟨(some 2), (.op (.mv (.t 3))), none⟩])
  .ret))))
def a67 : AF := ⟨9, [(.t 2)], .code b67, none⟩
theorem ok67 : AFOk Tryz.prog ext 67 a67 := .of Tryz.func67 (by kernel_rfl) (by kernel_rfl) (by kernel_rfl) (by kernel_rfl)
/-! 68: slices.Clone[[]uint64,uint64] -/
def b68 : AC :=
  (.seq (.reg [⟨(some 2), (.op (.mv (.k (.slice none 0 0)))), none⟩])
  (.seq (.seq (.reg [⟨(some 3), (.op (.mv (.t 0))), none⟩, ⟨(some 4), (.isnil false (.t 3)), none⟩])
  (.cond (.t 4) (.seq (.reg [⟨(some 2), (.op (.mv (.k (.slice none 0 0)))), none⟩])
  .ret)
  .skip))
  (.seq (.reg [⟨(some 5), (.op (.bslice 38 [] 0 [])), none⟩, ⟨(some 6), (.op (.mv (.t 0))), none⟩, ⟨(some 7), (.op (.append 38 1 8 (.t 5) (.t 6))), none⟩, ⟨(some 2), (.op (.mv (.t 7))), none⟩])
  .ret)))
def a68 : AF := ⟨8, [(.t 2)], .code b68, none⟩
theorem ok68 : AFOk Tryz.prog ext 68 a68 := .of Tryz.func68 (by kernel_rfl) (by kernel_rfl) (by kernel_rfl) (by kernel_rfl)
/-! 69: slices.Clone[[]rowlock/api.Reason,rowlock/api.Reason] -/
def b69 : AC :=
  (.seq (.reg [⟨(some 2), (.op (.mv (.k (.slice none 0 0)))), none⟩])
  (.seq (.seq (.reg [⟨(some 3), (.op (.mv (.t 0))), none⟩, ⟨(some 4), (.isnil false (.t 3)), none⟩])
  (.cond (.t 4) (.seq (.reg [⟨(some 2), (.op (.mv (.k (.slice none 0 0)))), none⟩])
  .ret)
  .skip))
  (.seq (.reg [⟨(some 5), (.op (.bslice 61 [] 0 [])), none⟩, ⟨(some 6), (.op (.mv (.t 0))), none⟩, ⟨(some 7), (.op (.append 61 1 1 (.t 5) (.t 6))), none⟩, ⟨(some 2), (.op (.mv (.t 7))), none⟩])
  .ret)))
def a69 : AF := ⟨8, [(.t 2)], .code b69, none⟩
theorem ok69 : AFOk Tryz.prog ext 69 a69 := .of Tryz.func69 (by kernel_rfl) (by kernel_rfl) (by kernel_rfl) (by kernel_rfl)
/-! 70: (*rowlock/reads.Set).Fork -/
def b70 : AC :=
  (.seq (.reg [⟨(some 2), (.op (.mv (.k (.pointer none)))), none⟩])
  (.seq (.seq (.reg [⟨(some 6), (.op (.mv (.t 0))), none⟩, ⟨(some 7), (.op (.eq false .ptr (.t 6) (.k (.pointer none)))), none⟩])
  (.cond (.t 7) (.seq (.reg [⟨(some 2), (.op (.mv (.k (.pointer none)))), none⟩])
  .ret)
  .skip))
  (.seq (.reg [⟨(some 8), (.call (.f 81) []), none⟩, ⟨(some 3), (.op (.mv (.t 8))), none⟩])
  (.seq (.reg [⟨(some 9), (.op (.mv (.t 3))), none⟩, ⟨(some 10), (.op (.mv (.t 0))), none⟩, ⟨(some 11), (.op (.nilchk (.t 10))), none⟩, ⟨(some 12), (.op (.faddr 0 (.t 11))), none⟩, ⟨(some 13), (.op (.load (.t 12))), none⟩, ⟨(some 14), (.call (.f 115) [(.t 13)]), none⟩, ⟨(some 15), (.op (.nilchk (.t 9))), none⟩, ⟨(some 16), (.op (.faddr 0 (.t 15))), none⟩, ⟨none, (.op (.store 1 (.t 16) (.t 14))), none⟩])
  (.seq (.seq (.reg [⟨(some 17), (.op (.mv (.t 0))), none⟩, ⟨(some 18), (.op (.nilchk (.t 17))), none⟩, ⟨(some 19), (.op (.faddr 1 (.t 18))), none⟩, ⟨(some 20), (.op (.load (.t 19))), none⟩, ⟨(some 21), (.op (.mrange (.t 20))), none⟩])
  (.block 0 (.loop (.seq (.reg [⟨(some 22), (.mnext (.t 21)), none⟩, ⟨(some 23), (.op (.extract (.t 22) 0)), none⟩])
   (.seq (.cond (.t 23) .skip
   (.exit 0))
   (.block 1 (.seq (.reg [⟨(some 24), (.op (.mentry (.t 21))), none⟩, ⟨(some 25), (.op (.extract (.t 24) 0)), none⟩, ⟨(some 26), (.op (.extract (.t 24) 1)), none⟩, ⟨(some 5), (.op (.alloc 155 [(.int .i64 0), (.int .u64 0), (.int .u64 0)])), none⟩, ⟨(some 4), (.op (.mv (.t 25))), none⟩, ⟨none, (.op (.store 3 (.t 5) (.t 26))), none⟩])
   (.dreg (.quiet ⟨(some 27), (.op (.mv (.t 3))), none⟩ (.quiet ⟨(some 28), (.op (.nilchk (.t 27))), none⟩ (.quiet ⟨(some 29), (.op (.faddr 1 (.t 28))), none⟩ (.quiet ⟨(some 30), (.op (.load (.t 29))), none⟩ (.quiet ⟨(some 31), (.op (.mv (.t 4))), none⟩ (.quiet ⟨(some 32), (.op (.loadN 3 (.t 5))), none⟩ (.loud ⟨none, (.op (.mapupd false (.t 30) (.t 31) (.t 32))), none⟩ [] .nil)))))))))))))))
  (.seq (.reg [⟨(some 33), (.op (.mv (.t 3))), none⟩, ⟨(some 2), (.op (.mv (.t 33))), none⟩])
  .ret))))))
def a70 : AF := ⟨34, [(.t 2)], .code b70, none⟩
theorem ok70 : AFOk Tryz.prog ext 70 a70 := .of Tryz.func70 (by kernel_rfl) (by kernel_rfl) (by kernel_rfl) (by kernel_rfl)
/-! 71: (*rowlock/writes.Log).Fork -/
def b71 : AC :=
  (.seq (.reg [⟨(some 2), (.op (.mv (.k (.pointer none)))), none⟩])
  (.seq (.seq (.reg [⟨(some 4), (.op (.mv (.t 0))), none⟩, ⟨(some 5), (.op (.eq false .ptr (.t 4) (.k (.pointer none)))), none⟩])
  (.cond (.t 5) (.seq (.reg [⟨(some 2), (.op (.mv (.k (.pointer none)))), none⟩])
  .ret)
  .skip))
  (.seq (.reg [⟨(some 6), (.op (.mv (.t 0))), none⟩, ⟨(some 7), (.op (.nilchk (.t 6))), none⟩, ⟨(some 8), (.op (.loadN 2 (.t 7))), none⟩, ⟨(some 3), (.op (.alloc 166 [(.pointer none), (.int .i64 0)])), none⟩, ⟨none, (.op (.store 2 (.t 3) (.t 8))), none⟩])
  (.seq (.reg [⟨(some 2), (.op (.mv (.t 3))), none⟩])
  .ret))))
def a71 : AF := ⟨9, [(.t 2)], .code b71, none⟩
theorem ok71 : AFOk Tryz.prog ext 71 a71 := .of Tryz.func71 (by kernel_rfl) (by kernel_rfl) (by kernel_rfl) (by kernel_rfl)
/-! 79: (*rowlock/norec.Engine).may -/
def b79 : AC :=
  (.seq (.reg [⟨(some 4), (.op (.mv (.k (.int .i64 0)))), none⟩])
  (.seq (.block 0 (.seq (.reg [⟨(some 6), (.op (.mv (.t 0))), none⟩, ⟨(some 7), (.op (.eq false .ptr (.t 6) (.k (.pointer none)))), none⟩, ⟨(some 5), (.op (.mv (.t 7))), none⟩])
  (.cond (.t 5) (.seq (.reg [⟨(some 4), (.op (.mv (.k (.int .i64 1)))), none⟩])
  .ret)
  (.seq (.reg [⟨(some 9), (.op (.mv (.t 1))), none⟩, ⟨(some 10), (.op (.bin .lss (.t 9) (.k (.int .i64 0)))), none⟩, ⟨(some 11), (.op (.mv (.t 10))), none⟩, ⟨(some 12), (.op (.mv (.t 1))), (some (11, false))⟩, ⟨(some 13), (.op (.bin .geq (.t 12) (.k (.int .i64 4)))), (some (11, false))⟩, ⟨(some 14), (.op (.pick (.t 11) (.k (.bool true)) (.t 13))), none⟩, ⟨(some 8), (.op (.mv (.t 14))), none⟩])
  (.cond (.t 8) (.seq (.reg [⟨(some 4), (.op (.mv (.k (.int .i64 2)))), none⟩])
  .ret)
  .skip)))))
  (.seq (.reg [⟨(some 4), (.op (.mv (.k (.int .i64 0)))), none⟩])
  .ret)))
def a79 : AF := ⟨15, [(.t 4)], .code b79, none⟩
theorem ok79 : AFOk Tryz.prog ext 79 a79 := .of Tryz.func79 (by kernel_rfl) (by kernel_rfl) (by kernel_rfl) (by kernel_rfl)
/-! 80: (*rowlock/seqlock.Lock).Snapshot -/
def b80 : AC :=
  (.seq (.reg [⟨(some 1), (.op (.box 85 (.t 0))), none⟩, ⟨(some 2), (.op (.alloc 38 [(.int .u64 0)])), none⟩, ⟨(some 3), (.op (.mv (.k (.int .i64 0)))), none⟩])
  (.seq (.reg [⟨(some 4), (.op (.mkfunc 129 [] [(.t 1), (.t 2)])), none⟩, ⟨(some 5), (.call (.f 128) [(.t 4)]), none⟩, ⟨(some 3), (.op (.mv (.t 5))), none⟩])
  (.seq (.reg [⟨(some 6), (.op (.load (.t 2))), none⟩, ⟨(some 7), (.op (.mv (.t 3))), none⟩, ⟨none, (.op (.store 1 (.t 2) (.t 6))), none⟩, ⟨(some 3), (.op (.mv (.t 7))), none⟩])
  .ret)))
def a80 : AF := ⟨8, [(.c 2 false 1), (.t 3)], .code b80, none⟩
theorem ok80 : AFOk Tryz.prog ext 80 a80 := .of Tryz.func80 (by kernel_rfl) (by kernel_rfl) (by kernel_rfl) (by kernel_rfl)
/-! 81: rowlock/reads.New -/
def b81 : AC :=
  (.seq (.reg [⟨(some 0), (.op (.mv (.k (.pointer none)))), none⟩])
  (.seq (.reg [⟨(some 1), (.op (.mkmap)), none⟩, ⟨(some 2), (.op (.build [(.slice none 0 0), (.map none)] [(1, 1, (.t 1))])), none⟩, ⟨(some 3), (.op (.box 163 (.t 2))), none⟩, ⟨(some 0), (.op (.mv (.t 3))), none⟩])
  .ret))
def a81 : AF := ⟨4, [(.t 0)], .code b81, none⟩
theorem ok81 : AFOk Tryz.prog ext 81 a81 := .of Tryz.func81 (by kernel_rfl) (by kernel_rfl) (by kernel_rfl) (by kernel_rfl)
/-! 82: rowlock/writes.New -/
def b82 : AC :=
  (.seq (.reg [⟨(some 0), (.op (.mv (.k (.pointer none)))), none⟩])
  (.seq (.reg [⟨(some 1), (.op (.mv (.k (.pointer none)))), none⟩])
  (.seq (.reg [⟨(some 2), (.op (.mv (.t 1))), none⟩, ⟨(some 3), (.call (.f 131) [(.t 2), (.k (.slice none 0 0))]), none⟩, ⟨(some 4), (.op (.build [(.pointer none), (.int .i64 0)] [(0, 1, (.t 3))])), none⟩, ⟨(some 5), (.op (.box 166 (.t 4))), none⟩, ⟨(some 0), (.op (.mv (.t 5))), none⟩])
  .ret)))
def a82 : AF := ⟨6, [(.t 0)], .code b82, none⟩
theorem ok82 : AFOk Tryz.prog ext 82 a82 := .of Tryz.func82 (by kernel_rfl) (by kernel_rfl) (by kernel_rfl) (by kernel_rfl)
/-! 83: (*rowlock/norec.Engine).tell -/
def b83 : AC :=
  (.seq (.reg [⟨(some 3), (.op (.box 84 (.t 1))), none⟩])
  (.dreg (.quiet ⟨(some 4), (.op (.mv (.t 0))), none⟩ (.quiet ⟨(some 5), (.op (.mv (.t 0))), none⟩ (.quiet ⟨(some 6), (.op (.nilchk (.t 5))), none⟩ (.quiet ⟨(some 7), (.op (.faddr 3 (.t 6))), none⟩ (.quiet ⟨(some 8), (.op (.load (.t 7))), none⟩ (.quiet ⟨(some 9), (.op (.loadN 4 (.t 3))), none⟩ (.loud ⟨(some 10), (.op (.bslice 84 [(.int .u8 0), (.int .i64 0), (.int .i64 0), (.int .u64 0)] 1 [(0, 4, (.t 9))])), none⟩ [⟨(some 8), (.op (.load (.t 7))), none⟩] (.loud ⟨(some 11), (.op (.append 84 4 32 (.t 8) (.t 10))), none⟩ [] (.quiet ⟨(some 12), (.op (.nilchk (.t 4))), none⟩ (.quiet ⟨(some 13), (.op (.faddr 3 (.t 12))), none⟩ (.loud ⟨none, (.op (.store 1 (.t 13) (.t 11))), none⟩ [] .nil)))))))))))))
def a83 : AF := ⟨14, [], .code b83, none⟩
theorem ok83 : AFOk Tryz.prog ext 83 a83 := .of Tryz.func83 (by kernel_rfl) (by kernel_rfl) (by kernel_rfl) (by kernel_rfl)
/-! 84: (*rowlock/norec.Engine).wanted -/
def b84 : AC :=
  (.seq (.reg [⟨(some 5), (.op (.box 51 (.t 2))), none⟩, ⟨(some 6), (.op (.mv (.k (.int .i64 0)))), none⟩])
  (.seq (.reg [⟨(some 9), (.op (.faddr 0 (.t 5))), none⟩, ⟨(some 10), (.op (.load (.t 9))), none⟩, ⟨(some 11), (.op (.bin .eql (.t 10) (.k (.int .u8 1)))), none⟩, ⟨(some 12), (.op (.mv (.t 11))), none⟩, ⟨(some 13), (.op (.faddr 0 (.t 5))), (some (12, false))⟩, ⟨(some 14), (.op (.load (.t 13))), (some (12, false))⟩, ⟨(some 15), (.op (.bin .eql (.t 14) (.k (.int .u8 2)))), (some (12, false))⟩, ⟨(some 16), (.op (.pick (.t 12) (.k (.bool true)) (.t 15))), none⟩, ⟨(some 7), (.op (.mv (.t 16))), none⟩])
  (.seq (.reg [⟨(some 17), (.op (.mv (.t 1))), none⟩, ⟨(some 18), (.op (.nilchk (.t 17))), none⟩, ⟨(some 19), (.op (.faddr 1 (.t 18))), none⟩, ⟨(some 20), (.op (.load (.t 19))), none⟩, ⟨(some 21), (.call (.f 132) [(.t 20)]), none⟩, ⟨(some 8), (.op (.mv (.t 21))), none⟩])
  (.seq (.block 0 (.seq (.reg [⟨(some 23), (.op (.faddr 0 (.t 5))), none⟩, ⟨(some 24), (.op (.load (.t 23))), none⟩, ⟨(some 25), (.op (.bin .eql (.t 24) (.k (.int .u8 0)))), none⟩, ⟨(some 26), (.op (.mv (.t 25))), none⟩, ⟨(some 27), (.op (.faddr 0 (.t 5))), (some (26, false))⟩, ⟨(some 28), (.op (.load (.t 27))), (some (26, false))⟩, ⟨(some 29), (.op (.bin .gtr (.t 28) (.k (.int .u8 7)))), (some (26, false))⟩, ⟨(some 30), (.op (.pick (.t 26) (.k (.bool true)) (.t 29))), none⟩, ⟨(some 22), (.op (.mv (.t 30))), none⟩])
  (.cond (.t 22) (.seq (.reg [⟨(some 6), (.op (.mv (.k (.int .i64 2)))), none⟩])
  .ret)
  (.seq (.dreg (.quiet ⟨(some 32), (.op (.mv (.t 7))), none⟩ (.quiet ⟨(some 33), (.op (.mv (.t 32))), none⟩ (.quiet ⟨(some 34), (.op (.faddr 1 (.t 5))), (some (33, true))⟩ (.quiet ⟨(some 35), (.op (.load (.t 34))), (some (33, true))⟩ (.quiet ⟨(some 36), (.op (.bin .lss (.t 35) (.k (.int .i64 0)))), (some (33, true))⟩ (.quiet ⟨(some 37), (.op (.mv (.t 36))), (some (33, true))⟩ (.quiet ⟨(some 38), (.op (.faddr 1 (.t 5))), (some (37, false))⟩ (.quiet ⟨(some 39), (.op (.load (.t 38))), (some (37, false))⟩ (.quiet ⟨(some 40), (.op (.mv (.t 0))), (some (37, false))⟩ (.quiet ⟨(some 41), (.op (.nilchk (.t 40))), (some (37, false))⟩ (.quiet ⟨(some 42), (.op (.faddr 1 (.t 41))), (some (37, false))⟩ (.quiet ⟨(some 43), (.op (.load (.t 42))), (some (37, false))⟩ (.quiet ⟨(some 44), (.op (.lenS (.t 43))), (some (37, false))⟩ (.quiet ⟨(some 45), (.op (.bin .geq (.t 39) (.t 44))), (some (37, false))⟩ (.quiet ⟨(some 46), (.op (.pick (.t 37) (.k (.bool true)) (.t 45))), (some (33, true))⟩ (.quiet ⟨(some 47), (.op (.pick (.t 33) (.t 46) (.k (.bool false)))), none⟩ (.loud ⟨(some 31), (.op (.mv (.t 47))), none⟩ [] .nil))))))))))))))))))
  (.cond (.t 31) (.seq (.reg [⟨(some 6), (.op (.mv (.k (.int .i64 2)))), none⟩])
  .ret)
  (.seq (.reg [⟨(some 49), (.op (.faddr 0 (.t 5))), none⟩, ⟨(some 50), (.op (.load (.t 49))), none⟩, ⟨(some 51), (.op (.bin .eql (.t 50) (.k (.int .u8 2)))), none⟩, ⟨(some 52), (.op (.mv (.t 51))), none⟩, ⟨(some 53), (.op (.faddr 2 (.t 5))), (some (52, true))⟩, ⟨(some 54), (.op (.load (.t 53))), (some (52, true))⟩, ⟨(some 55), (.call (.f 96) [(.t 54)]), (some (52, true))⟩, ⟨(some 56), (.op (.un .not (.t 55))), (some (52, true))⟩, ⟨(some 57), (.op (.pick (.t 52) (.t 56) (.k (.bool false)))), none⟩, ⟨(some 48), (.op (.mv (.t 57))), none⟩])
  (.cond (.t 48) (.seq (.reg [⟨(some 6), (.op (.mv (.k (.int .i64 3)))), none⟩])
  .ret)
  (.seq (.reg [⟨(some 59), (.op (.mv (.t 8))), none⟩, ⟨(some 60), (.op (.bin .eql (.t 59) (.k (.int .i64 0)))), none⟩, ⟨(some 61), (.op (.mv (.t 60))), none⟩, ⟨(some 62), (.op (.faddr 0 (.t 5))), (some (61, true))⟩, ⟨(some 63), (.op (.load (.t 62))), (some (61, true))⟩, ⟨(some 64), (.op (.bin .eql (.t 63) (.k (.int .u8 4)))), (some (61, true))⟩, ⟨(some 65), (.op (.mv (.t 64))), (some (61, true))⟩, ⟨(some 66), (.op (.faddr 0 (.t 5))), (some (65, false))⟩, ⟨(some 67), (.op (.load (.t 66))), (some (65, false))⟩, ⟨(some 68), (.op (.bin .eql (.t 67) (.k (.int .u8 5)))), (some (65, false))⟩, ⟨(some 69), (.op (.pick (.t 65) (.k (.bool true)) (.t 68))), (some (61, true))⟩, ⟨(some 70), (.op (.pick (.t 61) (.t 69) (.k (.bool false)))), none⟩, ⟨(some 58), (.op (.mv (.t 70))), none⟩])
  (.cond (.t 58) (.seq (.reg [⟨(some 6), (.op (.mv (.k (.int .i64 8)))), none⟩])
  .ret)
  (.seq (.reg [⟨(some 72), (.op (.mv (.t 8))), none⟩, ⟨(some 73), (.op (.bin .gtr (.t 72) (.k (.int .i64 0)))), none⟩, ⟨(some 74), (.op (.mv (.t 73))), none⟩, ⟨(some 75), (.op (.faddr 0 (.t 5))), (some (74, true))⟩, ⟨(some 76), (.op (.load (.t 75))), (some (74, true))⟩, ⟨(some 77), (.op (.bin .eql (.t 76) (.k (.int .u8 6)))), (some (74, true))⟩, ⟨(some 78), (.op (.pick (.t 74) (.t 77) (.k (.bool false)))), none⟩, ⟨(some 71), (.op (.mv (.t 78))), none⟩])
  (.cond (.t 71) (.seq (.reg [⟨(some 6), (.op (.mv (.k (.int .i64 8)))), none⟩])
  .ret)
  (.seq (.reg [⟨(some 80), (.op (.mv (.t 8))), none⟩, ⟨(some 81), (.op (.bin .geq (.t 80) (.k (.int .i64 4)))), none⟩, ⟨(some 82), (.op (.mv (.t 81))), none⟩, ⟨(some 83), (.op (.faddr 0 (.t 5))), (some (82, true))⟩, ⟨(some 84), (.op (.load (.t 83))), (some (82, true))⟩, ⟨(some 85), (.op (.bin .eql (.t 84) (.k (.int .u8 3)))), (some (82, true))⟩, ⟨(some 86), (.op (.pick (.t 82) (.t 85) (.k (.bool false)))), none⟩, ⟨(some 79), (.op (.mv (.t 86))), none⟩])
  (.cond (.t 79) (.seq (.reg [⟨(some 6), (.op (.mv (.k (.int .i64 4)))), none⟩])
  .ret)
  .skip)))))))))))))
  (.seq (.reg [⟨(some 6), (.op (.mv (.k (.int .i64 0)))), none⟩])
  .ret)))))
def a84 : AF := ⟨87, [(.t 6)], .code b84, none⟩
theorem ok84 : AFOk Tryz.prog ext 84 a84 := .of Tryz.func84 (by kernel_rfl) (by kernel_rfl) (by kernel_rfl) (by kernel_rfl)
/-! 85: (*rowlock/norec.Engine).again -/
def b85 : AC :=
  (.seq (.reg [⟨(some 6), (.op (.alloc 63 [(.bool false), (.int .u64 0), (.bool false), (.int .i64 0), (.bool false), (.int .u8 0), (.int .i64 0)])), none⟩])
  (.seq (.seq (.reg [⟨(some 12), (.op (.mv (.t 2))), none⟩, ⟨(some 13), (.op (.nilchk (.t 12))), none⟩, ⟨(some 14), (.op (.faddr 7 (.t 13))), none⟩, ⟨(some 15), (.op (.load (.t 14))), none⟩])
  (.block 0 (.seq (.reg [⟨(some 57), (.op (.bin .eql (.t 15) (.k (.int .i64 4)))), none⟩, ⟨(some 56), (.op (.mv (.t 57))), none⟩])
  (.cond (.t 56) (.seq (.reg [⟨(some 59), (.op (.mv (.t 0))), none⟩, ⟨(some 60), (.op (.nilchk (.t 59))), none⟩, ⟨(some 61), (.op (.faddr 0 (.t 60))), none⟩, ⟨(some 62), (.op (.load (.t 61))), none⟩, ⟨(some 63), (.call (.f 80) [(.t 62)]), none⟩, ⟨(some 58), (.op (.mv (.t 63))), none⟩, ⟨(some 64), (.op (.extract (.t 58) 0)), none⟩, ⟨(some 65), (.op (.extract (.t 58) 1)), none⟩, ⟨(some 7), (.op (.mv (.t 64))), none⟩, ⟨(some 8), (.op (.mv (.t 65))), none⟩])
  (.seq (.seq (.reg [⟨(some 66), (.op (.mv (.t 8))), none⟩, ⟨(some 67), (.op (.bin .neq (.t 66) (.k (.int .i64 0)))), none⟩])
  (.cond (.t 67) (.seq (.reg [⟨(some 69), (.op (.mv (.t 0))), none⟩, ⟨(some 70), (.op (.nilchk (.t 69))), none⟩, ⟨(some 71), (.op (.faddr 0 (.t 70))), none⟩, ⟨(some 72), (.op (.load (.t 71))), none⟩, ⟨(some 73), (.call (.f 94) [(.t 72)]), none⟩, ⟨(some 68), (.op (.mv (.t 73))), none⟩, ⟨(some 74), (.op (.extract (.t 68) 0)), none⟩, ⟨(some 75), (.op (.extract (.t 68) 1)), none⟩, ⟨(some 9), (.op (.mv (.t 74))), none⟩, ⟨(some 10), (.op (.mv (.t 75))), none⟩])
  (.seq (.reg [⟨(some 76), (.op (.mv (.t 9))), none⟩, ⟨(some 77), (.op (.build [(.bool false), (.int .u64 0), (.bool false), (.int .i64 0), (.bool false), (.int .u8 0), (.int .i64 0)] [(2, 1, (.k (.bool true))), (3, 1, (.t 76))])), none⟩, ⟨none, (.op (.store 7 (.t 6) (.t 77))), none⟩])
  .ret))
  .skip))
  (.reg [⟨(some 78), (.op (.mv (.t 2))), none⟩, ⟨(some 79), (.op (.mv (.t 2))), none⟩, ⟨(some 80), (.op (.mv (.t 2))), none⟩, ⟨(some 81), (.op (.mv (.t 7))), none⟩, ⟨(some 82), (.op (.nilchk (.t 78))), none⟩, ⟨(some 83), (.op (.faddr 10 (.t 82))), none⟩, ⟨none, (.op (.store 1 (.t 83) (.t 81))), none⟩, ⟨(some 84), (.op (.nilchk (.t 79))), none⟩, ⟨(some 85), (.op (.faddr 7 (.t 84))), none⟩, ⟨none, (.op (.store 1 (.t 85) (.k (.int .i64 5)))), none⟩, ⟨(some 86), (.op (.nilchk (.t 80))), none⟩, ⟨(some 87), (.op (.faddr 9 (.t 86))), none⟩, ⟨none, (.op (.store 1 (.t 87) (.k (.int .i64 0)))), none⟩])))
  (.seq (.reg [⟨(some 89), (.op (.bin .eql (.t 15) (.k (.int .i64 5)))), none⟩, ⟨(some 88), (.op (.mv (.t 89))), none⟩])
  (.cond (.t 88) (.seq (.reg [⟨(some 90), (.op (.mv (.t 2))), none⟩, ⟨(some 91), (.op (.nilchk (.t 90))), none⟩, ⟨(some 92), (.op (.faddr 0 (.t 91))), none⟩, ⟨(some 93), (.op (.load (.t 92))), none⟩, ⟨(some 94), (.call (.f 92) [(.t 93)]), none⟩, ⟨(some 11), (.op (.mv (.t 94))), none⟩])
  (.seq (.seq (.reg [⟨(some 95), (.op (.mv (.t 2))), none⟩, ⟨(some 96), (.op (.nilchk (.t 95))), none⟩, ⟨(some 97), (.op (.faddr 9 (.t 96))), none⟩, ⟨(some 98), (.op (.load (.t 97))), none⟩, ⟨(some 99), (.op (.mv (.t 11))), none⟩, ⟨(some 100), (.op (.lenS (.t 99))), none⟩, ⟨(some 101), (.op (.bin .eql (.t 98) (.t 100))), none⟩])
  (.cond (.t 101) (.seq (.reg [⟨(some 102), (.op (.mv (.t 2))), none⟩, ⟨(some 103), (.op (.nilchk (.t 102))), none⟩, ⟨(some 104), (.op (.faddr 7 (.t 103))), none⟩, ⟨none, (.op (.store 1 (.t 104) (.k (.int .i64 6)))), none⟩])
  (.exit 0))
  .skip))
  (.seq (.seq (.dreg (.quiet ⟨(some 105), (.op (.mv (.t 0))), none⟩ (.quiet ⟨(some 106), (.op (.nilchk (.t 105))), none⟩ (.quiet ⟨(some 107), (.op (.faddr 1 (.t 106))), none⟩ (.quiet ⟨(some 108), (.op (.load (.t 107))), none⟩ (.quiet ⟨(some 109), (.op (.mv (.t 11))), none⟩ (.quiet ⟨(some 110), (.op (.mv (.t 2))), none⟩ (.quiet ⟨(some 111), (.op (.nilchk (.t 110))), none⟩ (.quiet ⟨(some 112), (.op (.faddr 9 (.t 111))), none⟩ (.quiet ⟨(some 113), (.op (.load (.t 112))), none⟩ (.quiet ⟨(some 114), (.op (.iaddrS 3 (.t 109) (.t 113))), none⟩ (.quiet ⟨(some 115), (.op (.faddr 0 (.t 114))), none⟩ (.quiet ⟨(some 116), (.op (.load (.t 115))), none⟩ (.quiet ⟨(some 117), (.op (.iaddrS 1 (.t 108) (.t 116))), none⟩ (.quiet ⟨(some 118), (.op (.load (.t 117))), none⟩ (.quiet ⟨(some 119), (.op (.mv (.t 11))), none⟩ (.quiet ⟨(some 120), (.op (.mv (.t 2))), none⟩ (.quiet ⟨(some 121), (.op (.nilchk (.t 120))), none⟩ (.quiet ⟨(some 122), (.op (.faddr 9 (.t 121))), none⟩ (.quiet ⟨(some 123), (.op (.load (.t 122))), none⟩ (.quiet ⟨(some 124), (.op (.iaddrS 3 (.t 119) (.t 123))), none⟩ (.quiet ⟨(some 125), (.op (.faddr 1 (.t 124))), none⟩ (.quiet ⟨(some 126), (.op (.load (.t 125))), none⟩ (.loud ⟨(some 127), (.call (.f 133) [(.t 118), (.t 126)]), none⟩ [] (.quiet ⟨(some 128), (.op (.un .not (.t 127))), none⟩ .nil)))))))))))))))))))))))))
  (.cond (.t 128) (.seq (.reg [⟨(some 129), (.op (.mv (.t 0))), none⟩, ⟨(some 130), (.op (.mv (.t 1))), none⟩, ⟨(some 131), (.call (.f 86) [(.t 129), (.t 130), (.k (.int .u8 1))]), none⟩, ⟨none, (.op (.store 7 (.t 6) (.t 131))), none⟩])
  .ret)
  .skip))
  (.reg [⟨(some 132), (.op (.mv (.t 2))), none⟩, ⟨(some 133), (.op (.nilchk (.t 132))), none⟩, ⟨(some 134), (.op (.faddr 9 (.t 133))), none⟩, ⟨(some 135), (.op (.load (.t 134))), none⟩, ⟨(some 136), (.op (.bin .add (.t 135) (.k (.int .i64 1)))), none⟩, ⟨(some 137), (.op (.nilchk (.t 132))), none⟩, ⟨(some 138), (.op (.faddr 9 (.t 137))), none⟩, ⟨none, (.op (.store 1 (.t 138) (.t 136))), none⟩]))))
  (.seq (.reg [⟨(some 16), (.op (.mv (.t 2))), none⟩, ⟨(some 17), (.op (.nilchk (.t 16))), none⟩, ⟨(some 18), (.op (.faddr 7 (.t 17))), none⟩, ⟨none, (.op (.store 1 (.t 18) (.k (.int .i64 4)))), none⟩])
  (.seq (.dreg (.quiet ⟨(some 19), (.op (.mv (.t 0))), none⟩ (.quiet ⟨(some 20), (.op (.nilchk (.t 19))), none⟩ (.quiet ⟨(some 21), (.op (.faddr 0 (.t 20))), none⟩ (.quiet ⟨(some 22), (.op (.load (.t 21))), none⟩ (.quiet ⟨(some 23), (.op (.mv (.t 2))), none⟩ (.quiet ⟨(some 24), (.op (.nilchk (.t 23))), none⟩ (.quiet ⟨(some 25), (.op (.faddr 10 (.t 24))), none⟩ (.quiet ⟨(some 26), (.op (.load (.t 25))), none⟩ (.loud ⟨(some 27), (.call (.f 134) [(.t 22), (.t 26)]), none⟩ [] .nil))))))))))
  (.cond (.t 27) (.seq (.dreg (.quiet ⟨(some 28), (.op (.mv (.t 2))), none⟩ (.quiet ⟨(some 29), (.op (.mv (.t 2))), none⟩ (.quiet ⟨(some 30), (.op (.mv (.t 2))), none⟩ (.quiet ⟨(some 31), (.op (.nilchk (.t 30))), none⟩ (.quiet ⟨(some 32), (.op (.faddr 10 (.t 31))), none⟩ (.quiet ⟨(some 33), (.op (.load (.t 32))), none⟩ (.quiet ⟨(some 34), (.op (.mv (.t 2))), none⟩ (.quiet ⟨(some 35), (.op (.nilchk (.t 34))), none⟩ (.quiet ⟨(some 36), (.op (.faddr 8 (.t 35))), none⟩ (.quiet ⟨(some 37), (.op (.load (.t 36))), none⟩ (.quiet ⟨(some 38), (.op (.nilchk (.t 28))), none⟩ (.quiet ⟨(some 39), (.op (.faddr 3 (.t 38))), none⟩ (.loud ⟨none, (.op (.store 1 (.t 39) (.t 33))), none⟩ [] (.quiet ⟨(some 40), (.op (.nilchk (.t 29))), none⟩ (.quiet ⟨(some 41), (.op (.faddr 7 (.t 40))), none⟩ (.loud ⟨none, (.op (.store 1 (.t 41) (.t 37))), none⟩ [] .nil)))))))))))))))))
  (.dreg (.quiet ⟨(some 42), (.op (.mv (.t 0))), none⟩ (.quiet ⟨(some 43), (.op (.nilchk (.t 42))), none⟩ (.quiet ⟨(some 44), (.op (.faddr 4 (.t 43))), none⟩ (.quiet ⟨(some 45), (.op (.load (.t 44))), none⟩ (.quiet ⟨(some 46), (.op (.mv (.t 2))), none⟩ (.quiet ⟨(some 47), (.op (.nilchk (.t 46))), none⟩ (.quiet ⟨(some 48), (.op (.faddr 2 (.t 47))), none⟩ (.quiet ⟨(some 49), (.op (.load (.t 48))), none⟩ (.quiet ⟨(some 50), (.op (.mv (.t 2))), none⟩ (.quiet ⟨(some 51), (.op (.nilchk (.t 50))), none⟩ (.quiet ⟨(some 52), (.op (.faddr 10 (.t 51))), none⟩ (.quiet ⟨(some 53), (.op (.load (.t 52))), none⟩ (.quiet ⟨(some 54), (.op (.bin .add (.t 53) (.k (.int .u64 1)))), none⟩ (.quiet ⟨(some 55), (.op (.iaddrS 1 (.t 45) (.t 49))), none⟩ (.loud ⟨none, (.op (.store 1 (.t 55) (.t 54))), none⟩ [] .nil)))))))))))))))))
  .skip)))))))))
  (.seq (.reg [⟨(some 139), (.op (.build [(.bool false), (.int .u64 0), (.bool false), (.int .i64 0), (.bool false), (.int .u8 0), (.int .i64 0)] [])), none⟩, ⟨none, (.op (.store 7 (.t 6) (.t 139))), none⟩])
  .ret)))
def a85 : AF := ⟨140, [(.c 6 true 7)], .code b85, none⟩
theorem ok85 : AFOk Tryz.prog ext 85 a85 := .of Tryz.func85 (by kernel_rfl) (by kernel_rfl) (by kernel_rfl) (by kernel_rfl)
/-! 86: (*rowlock/norec.Engine).end -/
def b86 : AC :=
  (.seq (.reg [⟨(some 6), (.op (.alloc 63 [(.bool false), (.int .u64 0), (.bool false), (.int .i64 0), (.bool false), (.int .u8 0), (.int .i64 0)])), none⟩])
  (.seq (.reg [⟨(some 8), (.op (.mv (.t 0))), none⟩, ⟨(some 9), (.op (.nilchk (.t 8))), none⟩, ⟨(some 10), (.op (.faddr 2 (.t 9))), none⟩, ⟨(some 11), (.op (.load (.t 10))), none⟩, ⟨(some 12), (.op (.mv (.t 1))), none⟩, ⟨(some 13), (.op (.lookup false (.pointer none) false (.t 11) (.t 12))), none⟩, ⟨(some 7), (.op (.mv (.t 13))), none⟩])
  (.seq (.reg [⟨(some 14), (.op (.mv (.t 0))), none⟩, ⟨(some 15), (.op (.nilchk (.t 14))), none⟩, ⟨(some 16), (.op (.faddr 2 (.t 15))), none⟩, ⟨(some 17), (.op (.load (.t 16))), none⟩, ⟨(some 18), (.op (.mv (.t 1))), none⟩, ⟨none, (.op (.delete false (.t 17) (.t 18))), none⟩])
  (.seq (.reg [⟨(some 19), (.op (.mv (.t 0))), none⟩, ⟨(some 20), (.op (.nilchk (.t 19))), none⟩, ⟨(some 21), (.op (.faddr 0 (.t 20))), none⟩, ⟨(some 22), (.op (.load (.t 21))), none⟩, ⟨(some 23), (.op (.mv (.t 1))), none⟩, ⟨(some 24), (.call (.f 135) [(.t 22), (.t 23)]), none⟩])
  (.seq (.dreg (.quiet ⟨(some 25), (.op (.mv (.t 0))), none⟩ (.quiet ⟨(some 26), (.op (.nilchk (.t 25))), none⟩ (.quiet ⟨(some 27), (.op (.faddr 5 (.t 26))), none⟩ (.quiet ⟨(some 28), (.op (.load (.t 27))), none⟩ (.quiet ⟨(some 29), (.op (.mv (.t 7))), none⟩ (.quiet ⟨(some 30), (.op (.nilchk (.t 29))), none⟩ (.quiet ⟨(some 31), (.op (.faddr 2 (.t 30))), none⟩ (.quiet ⟨(some 32), (.op (.load (.t 31))), none⟩ (.quiet ⟨(some 33), (.op (.mv (.t 2))), none⟩ (.quiet ⟨(some 34), (.op (.iaddrS 1 (.t 28) (.t 32))), none⟩ (.loud ⟨none, (.op (.store 1 (.t 34) (.t 33))), none⟩ [] .nil))))))))))))
  (.seq (.reg [⟨(some 35), (.op (.mv (.t 0))), none⟩, ⟨(some 36), (.op (.mv (.t 7))), none⟩, ⟨(some 37), (.op (.nilchk (.t 36))), none⟩, ⟨(some 38), (.op (.faddr 2 (.t 37))), none⟩, ⟨(some 39), (.op (.load (.t 38))), none⟩, ⟨(some 40), (.op (.build [(.int .u8 0), (.int .i64 0), (.int .i64 0), (.int .u64 0)] [(0, 1, (.k (.int .u8 9))), (1, 1, (.t 39))])), none⟩, ⟨(some 41), (.call (.f 83) [(.t 35), (.t 40)]), none⟩])
  (.seq (.reg [⟨(some 42), (.op (.mv (.t 2))), none⟩, ⟨(some 43), (.op (.build [(.bool false), (.int .u64 0), (.bool false), (.int .i64 0), (.bool false), (.int .u8 0), (.int .i64 0)] [(0, 1, (.k (.bool true))), (4, 1, (.k (.bool true))), (5, 1, (.t 42))])), none⟩, ⟨none, (.op (.store 7 (.t 6) (.t 43))), none⟩])
  .ret)))))))
def a86 : AF := ⟨44, [(.c 6 true 7)], .code b86, none⟩
theorem ok86 : AFOk Tryz.prog ext 86 a86 := .of Tryz.func86 (by kernel_rfl) (by kernel_rfl) (by kernel_rfl) (by kernel_rfl)
/-! 87: (*rowlock/norec.Engine).goOn -/
def b87 : AC :=
  (.seq (.reg [⟨(some 6), (.op (.alloc 63 [(.bool false), (.int .u64 0), (.bool false), (.int .i64 0), (.bool false), (.int .u8 0), (.int .i64 0)])), none⟩])
  (.seq (.reg [⟨(some 8), (.op (.mv (.t 2))), none⟩, ⟨(some 9), (.op (.nilchk (.t 8))), none⟩, ⟨(some 10), (.op (.faddr 1 (.t 9))), none⟩, ⟨(some 11), (.op (.load (.t 10))), none⟩, ⟨(some 12), (.call (.f 93) [(.t 11)]), none⟩, ⟨(some 7), (.op (.mv (.t 12))), none⟩])
  (.seq (.seq (.reg [⟨(some 13), (.op (.mv (.t 2))), none⟩, ⟨(some 14), (.op (.nilchk (.t 13))), none⟩, ⟨(some 15), (.op (.faddr 7 (.t 14))), none⟩, ⟨(some 16), (.op (.load (.t 15))), none⟩])
  (.block 0 (.seq (.reg [⟨(some 27), (.op (.bin .eql (.t 16) (.k (.int .i64 0)))), none⟩, ⟨(some 26), (.op (.mv (.t 27))), none⟩])
  (.cond (.t 26) (.seq (.reg [⟨(some 28), (.op (.mv (.t 0))), none⟩, ⟨(some 29), (.op (.mv (.t 2))), none⟩, ⟨(some 30), (.op (.nilchk (.t 29))), none⟩, ⟨(some 31), (.op (.faddr 2 (.t 30))), none⟩, ⟨(some 32), (.op (.load (.t 31))), none⟩, ⟨(some 33), (.op (.build [(.int .u8 0), (.int .i64 0), (.int .i64 0), (.int .u64 0)] [(0, 1, (.k (.int .u8 7))), (1, 1, (.t 32))])), none⟩, ⟨(some 34), (.call (.f 83) [(.t 28), (.t 33)]), none⟩])
  (.seq (.seq (.reg [⟨(some 35), (.op (.mv (.t 7))), none⟩, ⟨(some 36), (.op (.lenS (.t 35))), none⟩, ⟨(some 37), (.op (.bin .eql (.t 36) (.k (.int .i64 0)))), none⟩])
  (.cond (.t 37) (.seq (.reg [⟨(some 38), (.op (.mv (.t 0))), none⟩, ⟨(some 39), (.op (.mv (.t 1))), none⟩, ⟨(some 40), (.call (.f 136) [(.t 38), (.t 39)]), none⟩, ⟨none, (.op (.store 7 (.t 6) (.t 40))), none⟩])
  .ret)
  .skip))
  (.reg [⟨(some 41), (.op (.mv (.t 2))), none⟩, ⟨(some 42), (.op (.nilchk (.t 41))), none⟩, ⟨(some 43), (.op (.faddr 7 (.t 42))), none⟩, ⟨none, (.op (.store 1 (.t 43) (.k (.int .i64 1)))), none⟩])))
  (.seq (.reg [⟨(some 45), (.op (.bin .eql (.t 16) (.k (.int .i64 1)))), none⟩, ⟨(some 44), (.op (.mv (.t 45))), none⟩])
  (.cond (.t 44) (.seq (.dreg (.quiet ⟨(some 46), (.op (.mv (.t 0))), none⟩ (.quiet ⟨(some 47), (.op (.nilchk (.t 46))), none⟩ (.quiet ⟨(some 48), (.op (.faddr 0 (.t 47))), none⟩ (.quiet ⟨(some 49), (.op (.load (.t 48))), none⟩ (.quiet ⟨(some 50), (.op (.mv (.t 1))), none⟩ (.quiet ⟨(some 51), (.op (.mv (.t 2))), none⟩ (.quiet ⟨(some 52), (.op (.nilchk (.t 51))), none⟩ (.quiet ⟨(some 53), (.op (.faddr 3 (.t 52))), none⟩ (.quiet ⟨(some 54), (.op (.load (.t 53))), none⟩ (.loud ⟨(some 55), (.call (.f 137) [(.t 49), (.t 50), (.t 54)]), none⟩ [] .nil)))))))))))
  (.block 1 (.seq (.reg [⟨(some 59), (.op (.bin .eql (.t 55) (.k (.int .i64 0)))), none⟩, ⟨(some 58), (.op (.mv (.t 59))), none⟩])
  (.cond (.t 58) (.seq (.reg [⟨(some 60), (.op (.mv (.t 2))), none⟩, ⟨(some 61), (.op (.mv (.t 2))), none⟩, ⟨(some 62), (.op (.mv (.t 2))), none⟩, ⟨(some 63), (.op (.nilchk (.t 60))), none⟩, ⟨(some 64), (.op (.faddr 12 (.t 63))), none⟩, ⟨none, (.op (.store 1 (.t 64) (.k (.bool true)))), none⟩, ⟨(some 65), (.op (.nilchk (.t 61))), none⟩, ⟨(some 66), (.op (.faddr 7 (.t 65))), none⟩, ⟨none, (.op (.store 1 (.t 66) (.k (.int .i64 2)))), none⟩, ⟨(some 67), (.op (.nilchk (.t 62))), none⟩, ⟨(some 68), (.op (.faddr 9 (.t 67))), none⟩, ⟨none, (.op (.store 1 (.t 68) (.k (.int .i64 0)))), none⟩])
  (.dreg (.quiet ⟨(some 69), (.op (.mv (.t 0))), none⟩ (.quiet ⟨(some 70), (.op (.nilchk (.t 69))), none⟩ (.quiet ⟨(some 71), (.op (.faddr 4 (.t 70))), none⟩ (.quiet ⟨(some 72), (.op (.load (.t 71))), none⟩ (.quiet ⟨(some 73), (.op (.mv (.t 2))), none⟩ (.quiet ⟨(some 74), (.op (.nilchk (.t 73))), none⟩ (.quiet ⟨(some 75), (.op (.faddr 2 (.t 74))), none⟩ (.quiet ⟨(some 76), (.op (.load (.t 75))), none⟩ (.quiet ⟨(some 77), (.op (.mv (.t 2))), none⟩ (.quiet ⟨(some 78), (.op (.nilchk (.t 77))), none⟩ (.quiet ⟨(some 79), (.op (.faddr 3 (.t 78))), none⟩ (.quiet ⟨(some 80), (.op (.load (.t 79))), none⟩ (.quiet ⟨(some 81), (.op (.bin .add (.t 80) (.k (.int .u64 2)))), none⟩ (.quiet ⟨(some 82), (.op (.iaddrS 1 (.t 72) (.t 76))), none⟩ (.loud ⟨none, (.op (.store 1 (.t 82) (.t 81))), none⟩ [] .nil)))))))))))))))))
  (.seq (.reg [⟨(some 84), (.op (.bin .eql (.t 55) (.k (.int .i64 4)))), none⟩, ⟨(some 83), (.op (.mv (.t 84))), none⟩])
  (.cond (.t 83) (.seq (.reg [⟨(some 85), (.op (.mv (.t 0))), none⟩, ⟨(some 86), (.op (.mv (.t 1))), none⟩, ⟨(some 87), (.call (.f 86) [(.t 85), (.t 86), (.k (.int .u8 2))]), none⟩, ⟨none, (.op (.store 7 (.t 6) (.t 87))), none⟩])
  .ret)
  (.seq (.reg [⟨(some 56), (.op (.mv (.t 2))), none⟩, ⟨(some 57), (.call (.f 138) [(.t 56), (.k (.int .i64 1))]), none⟩, ⟨none, (.op (.store 7 (.t 6) (.t 57))), none⟩])
  .ret)))))))
  (.seq (.reg [⟨(some 89), (.op (.bin .eql (.t 16) (.k (.int .i64 2)))), none⟩, ⟨(some 88), (.op (.mv (.t 89))), none⟩])
  (.cond (.t 88) (.seq (.dreg (.quiet ⟨(some 90), (.op (.mv (.t 0))), none⟩ (.quiet ⟨(some 91), (.op (.nilchk (.t 90))), none⟩ (.quiet ⟨(some 92), (.op (.faddr 1 (.t 91))), none⟩ (.quiet ⟨(some 93), (.op (.load (.t 92))), none⟩ (.quiet ⟨(some 94), (.op (.mv (.t 7))), none⟩ (.quiet ⟨(some 95), (.op (.mv (.t 2))), none⟩ (.quiet ⟨(some 96), (.op (.nilchk (.t 95))), none⟩ (.quiet ⟨(some 97), (.op (.faddr 9 (.t 96))), none⟩ (.quiet ⟨(some 98), (.op (.load (.t 97))), none⟩ (.quiet ⟨(some 99), (.op (.iaddrS 2 (.t 94) (.t 98))), none⟩ (.quiet ⟨(some 100), (.op (.faddr 0 (.t 99))), none⟩ (.quiet ⟨(some 101), (.op (.load (.t 100))), none⟩ (.quiet ⟨(some 102), (.op (.mv (.t 7))), none⟩ (.quiet ⟨(some 103), (.op (.mv (.t 2))), none⟩ (.quiet ⟨(some 104), (.op (.nilchk (.t 103))), none⟩ (.quiet ⟨(some 105), (.op (.faddr 9 (.t 104))), none⟩ (.quiet ⟨(some 106), (.op (.load (.t 105))), none⟩ (.quiet ⟨(some 107), (.op (.iaddrS 2 (.t 102) (.t 106))), none⟩ (.quiet ⟨(some 108), (.op (.faddr 1 (.t 107))), none⟩ (.quiet ⟨(some 109), (.op (.load (.t 108))), none⟩ (.quiet ⟨(some 110), (.op (.iaddrS 1 (.t 93) (.t 101))), none⟩ (.loud ⟨none, (.op (.store 1 (.t 110) (.t 109))), none⟩ [] .nil)))))))))))))))))))))))
  (.seq (.reg [⟨(some 111), (.op (.mv (.t 2))), none⟩, ⟨(some 112), (.op (.nilchk (.t 111))), none⟩, ⟨(some 113), (.op (.faddr 9 (.t 112))), none⟩, ⟨(some 114), (.op (.load (.t 113))), none⟩, ⟨(some 115), (.op (.bin .add (.t 114) (.k (.int .i64 1)))), none⟩, ⟨(some 116), (.op (.nilchk (.t 111))), none⟩, ⟨(some 117), (.op (.faddr 9 (.t 116))), none⟩, ⟨none, (.op (.store 1 (.t 117) (.t 115))), none⟩])
  (.seq (.reg [⟨(some 118), (.op (.mv (.t 2))), none⟩, ⟨(some 119), (.op (.nilchk (.t 118))), none⟩, ⟨(some 120), (.op (.faddr 9 (.t 119))), none⟩, ⟨(some 121), (.op (.load (.t 120))), none⟩, ⟨(some 122), (.op (.mv (.t 7))), none⟩, ⟨(some 123), (.op (.lenS (.t 122))), none⟩, ⟨(some 124), (.op (.bin .eql (.t 121) (.t 123))), none⟩])
  (.cond (.t 124) (.reg [⟨(some 125), (.op (.mv (.t 2))), none⟩, ⟨(some 126), (.op (.nilchk (.t 125))), none⟩, ⟨(some 127), (.op (.faddr 7 (.t 126))), none⟩, ⟨none, (.op (.store 1 (.t 127) (.k (.int .i64 3)))), none⟩])
  .skip))))
  (.seq (.reg [⟨(some 17), (.op (.mv (.t 0))), none⟩, ⟨(some 18), (.op (.nilchk (.t 17))), none⟩, ⟨(some 19), (.op (.faddr 0 (.t 18))), none⟩, ⟨(some 20), (.op (.load (.t 19))), none⟩, ⟨(some 21), (.op (.mv (.t 1))), none⟩, ⟨(some 22), (.call (.f 139) [(.t 20), (.t 21)]), none⟩])
  (.seq (.reg [⟨(some 23), (.op (.mv (.t 0))), none⟩, ⟨(some 24), (.op (.mv (.t 1))), none⟩, ⟨(some 25), (.call (.f 136) [(.t 23), (.t 24)]), none⟩, ⟨none, (.op (.store 7 (.t 6) (.t 25))), none⟩])
  .ret))))))))))
  (.seq (.reg [⟨(some 128), (.op (.build [(.bool false), (.int .u64 0), (.bool false), (.int .i64 0), (.bool false), (.int .u8 0), (.int .i64 0)] [])), none⟩, ⟨none, (.op (.store 7 (.t 6) (.t 128))), none⟩])
  .ret))))
def a87 : AF := ⟨129, [(.c 6 true 7)], .code b87, none⟩
theorem ok87 : AFOk Tryz.prog ext 87 a87 := .of Tryz.func87 (by kernel_rfl) (by kernel_rfl) (by kernel_rfl) (by kernel_rfl)
/-! 88: (*rowlock/writes.Log).Get -/
def b88 : AC :=
  (.seq (.reg [⟨(some 3), (.op (.box 3 (.t 1))), none⟩, ⟨(some 4), (.op (.alloc 49 [(.int .u64 0)])), none⟩, ⟨(some 5), (.op (.alloc 4 [(.bool false)])), none⟩])
  (.seq (.seq (.reg [⟨(some 9), (.op (.mv (.t 0))), none⟩, ⟨(some 10), (.op (.eq false .ptr (.t 9) (.k (.pointer none)))), none⟩])
  (.cond (.t 10) (.seq (.reg [⟨none, (.op (.store 1 (.t 4) (.k (.int .u64 0)))), none⟩, ⟨none, (.op (.store 1 (.t 5) (.k (.bool false)))), none⟩])
  .ret)
  .skip))
  (.seq (.seq (.reg [⟨(some 11), (.op (.mv (.t 0))), none⟩, ⟨(some 12), (.op (.nilchk (.t 11))), none⟩, ⟨(some 13), (.op (.faddr 0 (.t 12))), none⟩, ⟨(some 14), (.op (.load (.t 13))), none⟩, ⟨(some 15), (.call (.f 140) [(.t 14)]), none⟩])
  (.block 0 (.rfunc (.t 15) [16] (.reg [⟨(some 6), (.op (.mv (.t 16))), none⟩])
   (.block 1 (.seq (.reg [⟨(some 18), (.op (.mv (.t 6))), none⟩, ⟨(some 19), (.op (.load (.t 3))), none⟩, ⟨(some 20), (.call (.f 141) [(.t 18), (.t 19)]), none⟩, ⟨(some 17), (.op (.mv (.t 20))), none⟩, ⟨(some 21), (.op (.extract (.t 17) 0)), none⟩, ⟨(some 22), (.op (.extract (.t 17) 1)), none⟩, ⟨(some 7), (.op (.mv (.t 21))), none⟩, ⟨(some 8), (.op (.mv (.t 22))), none⟩])
   (.seq (.reg [⟨(some 23), (.op (.mv (.t 8))), none⟩])
   (.cond (.t 23) (.seq (.reg [⟨(some 24), (.op (.mv (.t 7))), none⟩, ⟨none, (.op (.store 1 (.t 4) (.t 24))), none⟩, ⟨none, (.op (.store 1 (.t 5) (.k (.bool true)))), none⟩])
   .ret)
   .skip)))))))
  (.seq (.reg [⟨none, (.op (.store 1 (.t 4) (.k (.int .u64 0)))), none⟩, ⟨none, (.op (.store 1 (.t 5) (.k (.bool false)))), none⟩])
  .ret))))
def a88 : AF := ⟨25, [(.c 4 false 1), (.c 5 false 1)], .code b88, none⟩
theorem ok88 : AFOk Tryz.prog ext 88 a88 := .of Tryz.func88 (by kernel_rfl) (by kernel_rfl) (by kernel_rfl) (by kernel_rfl)
/-! 89: (*rowlock/norec.Engine).got -/
def b89 : AC :=
  (.seq (.reg [⟨(some 6), (.op (.alloc 63 [(.bool false), (.int .u64 0), (.bool false), (.int .i64 0), (.bool false), (.int .u8 0), (.int .i64 0)])), none⟩])
  (.seq (.dreg (.quiet ⟨(some 7), (.op (.mv (.t 0))), none⟩ (.quiet ⟨(some 8), (.op (.mv (.t 1))), none⟩ (.quiet ⟨(some 9), (.op (.nilchk (.t 8))), none⟩ (.quiet ⟨(some 10), (.op (.faddr 2 (.t 9))), none⟩ (.quiet ⟨(some 11), (.op (.load (.t 10))), none⟩ (.quiet ⟨(some 12), (.op (.mv (.t 1))), none⟩ (.quiet ⟨(some 13), (.op (.nilchk (.t 12))), none⟩ (.quiet ⟨(some 14), (.op (.faddr 4 (.t 13))), none⟩ (.quiet ⟨(some 15), (.op (.faddr 1 (.t 14))), none⟩ (.quiet ⟨(some 16), (.op (.load (.t 15))), none⟩ (.quiet ⟨(some 17), (.op (.mv (.t 2))), none⟩ (.quiet ⟨(some 18), (.op (.build [(.int .u8 0), (.int .i64 0), (.int .i64 0), (.int .u64 0)] [(0, 1, (.k (.int .u8 2))), (1, 1, (.t 11)), (2, 1, (.t 16)), (3, 1, (.t 17))])), none⟩ (.loud ⟨(some 19), (.call (.f 83) [(.t 7), (.t 18)]), none⟩ [] .nil))))))))))))))
  (.seq (.reg [⟨(some 20), (.op (.mv (.t 1))), none⟩, ⟨(some 21), (.op (.mv (.t 2))), none⟩, ⟨(some 22), (.call (.f 142) [(.t 20), (.t 21)]), none⟩, ⟨none, (.op (.store 7 (.t 6) (.t 22))), none⟩])
  .ret)))
def a89 : AF := ⟨23, [(.c 6 true 7)], .code b89, none⟩
theorem ok89 : AFOk Tryz.prog ext 89 a89 := .of Tryz.func89 (by kernel_rfl) (by kernel_rfl) (by kernel_rfl) (by kernel_rfl)
/-! 90: (*rowlock/norec.Engine).read -/
def b90 : AC :=
  (.seq (.reg [⟨(some 6), (.op (.alloc 63 [(.bool false), (.int .u64 0), (.bool false), (.int .i64 0), (.bool false), (.int .u8 0), (.int .i64 0)])), none⟩])
  (.seq (.reg [⟨(some 8), (.op (.mv (.t 2))), none⟩, ⟨(some 9), (.op (.nilchk (.t 8))), none⟩, ⟨(some 10), (.op (.faddr 4 (.t 9))), none⟩, ⟨(some 11), (.op (.faddr 1 (.t 10))), none⟩, ⟨(some 12), (.op (.load (.t 11))), none⟩, ⟨(some 7), (.op (.mv (.t 12))), none⟩])
  (.seq (.block 0 (.seq (.reg [⟨(some 14), (.op (.mv (.t 2))), none⟩, ⟨(some 15), (.op (.nilchk (.t 14))), none⟩, ⟨(some 16), (.op (.faddr 7 (.t 15))), none⟩, ⟨(some 17), (.op (.load (.t 16))), none⟩, ⟨(some 18), (.op (.bin .eql (.t 17) (.k (.int .i64 0)))), none⟩, ⟨(some 13), (.op (.mv (.t 18))), none⟩])
  (.cond (.t 13) (.seq (.reg [⟨(some 19), (.op (.mv (.t 2))), none⟩, ⟨(some 20), (.op (.mv (.t 2))), none⟩, ⟨(some 21), (.op (.mv (.t 0))), none⟩, ⟨(some 22), (.op (.nilchk (.t 21))), none⟩, ⟨(some 23), (.op (.faddr 1 (.t 22))), none⟩, ⟨(some 24), (.op (.load (.t 23))), none⟩, ⟨(some 25), (.op (.mv (.t 7))), none⟩, ⟨(some 26), (.op (.iaddrS 1 (.t 24) (.t 25))), none⟩, ⟨(some 27), (.op (.load (.t 26))), none⟩, ⟨(some 28), (.op (.nilchk (.t 19))), none⟩, ⟨(some 29), (.op (.faddr 11 (.t 28))), none⟩, ⟨none, (.op (.store 1 (.t 29) (.t 27))), none⟩, ⟨(some 30), (.op (.nilchk (.t 20))), none⟩, ⟨(some 31), (.op (.faddr 7 (.t 30))), none⟩, ⟨none, (.op (.store 1 (.t 31) (.k (.int .i64 1)))), none⟩])
  (.seq (.reg [⟨(some 32), (.op (.build [(.bool false), (.int .u64 0), (.bool false), (.int .i64 0), (.bool false), (.int .u8 0), (.int .i64 0)] [])), none⟩, ⟨none, (.op (.store 7 (.t 6) (.t 32))), none⟩])
  .ret))
  (.seq (.dreg (.quiet ⟨(some 34), (.op (.mv (.t 0))), none⟩ (.quiet ⟨(some 35), (.op (.nilchk (.t 34))), none⟩ (.quiet ⟨(some 36), (.op (.faddr 0 (.t 35))), none⟩ (.quiet ⟨(some 37), (.op (.load (.t 36))), none⟩ (.quiet ⟨(some 38), (.op (.mv (.t 2))), none⟩ (.quiet ⟨(some 39), (.op (.nilchk (.t 38))), none⟩ (.quiet ⟨(some 40), (.op (.faddr 3 (.t 39))), none⟩ (.quiet ⟨(some 41), (.op (.load (.t 40))), none⟩ (.loud ⟨(some 42), (.call (.f 134) [(.t 37), (.t 41)]), none⟩ [] (.quiet ⟨(some 43), (.op (.un .not (.t 42))), none⟩ (.loud ⟨(some 33), (.op (.mv (.t 43))), none⟩ [] .nil))))))))))))
  (.cond (.t 33) (.seq (.reg [⟨(some 44), (.op (.mv (.t 2))), none⟩, ⟨(some 45), (.call (.f 138) [(.t 44), (.k (.int .i64 0))]), none⟩, ⟨none, (.op (.store 7 (.t 6) (.t 45))), none⟩])
  .ret)
  (.seq (.dreg (.quiet ⟨(some 47), (.op (.mv (.t 2))), none⟩ (.quiet ⟨(some 48), (.op (.nilchk (.t 47))), none⟩ (.quiet ⟨(some 49), (.op (.faddr 0 (.t 48))), none⟩ (.quiet ⟨(some 50), (.op (.load (.t 49))), none⟩ (.quiet ⟨(some 51), (.op (.mv (.t 7))), none⟩ (.quiet ⟨(some 52), (.op (.mv (.t 2))), none⟩ (.quiet ⟨(some 53), (.op (.nilchk (.t 52))), none⟩ (.quiet ⟨(some 54), (.op (.faddr 11 (.t 53))), none⟩ (.quiet ⟨(some 55), (.op (.load (.t 54))), none⟩ (.quiet ⟨(some 56), (.op (.build [(.int .i64 0), (.int .u64 0), (.int .u64 0)] [(0, 1, (.t 51)), (1, 1, (.t 55))])), none⟩ (.loud ⟨(some 57), (.call (.f 143) [(.t 50), (.t 56)]), none⟩ [] (.quiet ⟨(some 58), (.op (.bin .neq (.t 57) (.k (.int .i64 0)))), none⟩ (.loud ⟨(some 46), (.op (.mv (.t 58))), none⟩ [] .nil))))))))))))))
  (.cond (.t 46) (.seq (.reg [⟨(some 59), (.op (.mv (.t 0))), none⟩, ⟨(some 60), (.op (.mv (.t 1))), none⟩, ⟨(some 61), (.call (.f 86) [(.t 59), (.t 60), (.k (.int .u8 2))]), none⟩, ⟨none, (.op (.store 7 (.t 6) (.t 61))), none⟩])
  .ret)
  .skip)))))))
  (.seq (.reg [⟨(some 62), (.op (.mv (.t 0))), none⟩, ⟨(some 63), (.op (.mv (.t 2))), none⟩, ⟨(some 64), (.op (.mv (.t 2))), none⟩, ⟨(some 65), (.op (.nilchk (.t 64))), none⟩, ⟨(some 66), (.op (.faddr 11 (.t 65))), none⟩, ⟨(some 67), (.op (.load (.t 66))), none⟩, ⟨(some 68), (.call (.f 89) [(.t 62), (.t 63), (.t 67)]), none⟩, ⟨none, (.op (.store 7 (.t 6) (.t 68))), none⟩])
  .ret))))
def a90 : AF := ⟨69, [(.c 6 true 7)], .code b90, none⟩
theorem ok90 : AFOk Tryz.prog ext 90 a90 := .of Tryz.func90 (by kernel_rfl) (by kernel_rfl) (by kernel_rfl) (by kernel_rfl)
/-! 91: (*rowlock/norec.Engine).turn -/
def b91 : AC :=
  (.seq (.reg [⟨(some 6), (.op (.alloc 63 [(.bool false), (.int .u64 0), (.bool false), (.int .i64 0), (.bool false), (.int .u8 0), (.int .i64 0)])), none⟩])
  (.seq (.reg [⟨(some 8), (.op (.mv (.t 2))), none⟩, ⟨(some 9), (.op (.nilchk (.t 8))), none⟩, ⟨(some 10), (.op (.faddr 2 (.t 9))), none⟩, ⟨(some 11), (.op (.load (.t 10))), none⟩, ⟨(some 12), (.op (.build [(.int .u8 0), (.int .i64 0), (.int .i64 0), (.int .u64 0)] [(1, 1, (.t 11))])), none⟩, ⟨(some 7), (.op (.alloc 84 [(.int .u8 0), (.int .i64 0), (.int .i64 0), (.int .u64 0)])), none⟩, ⟨none, (.op (.store 4 (.t 7) (.t 12))), none⟩])
  (.seq (.seq (.reg [⟨(some 13), (.op (.mv (.t 2))), none⟩, ⟨(some 14), (.op (.nilchk (.t 13))), none⟩, ⟨(some 15), (.op (.faddr 4 (.t 14))), none⟩, ⟨(some 16), (.op (.faddr 0 (.t 15))), none⟩, ⟨(some 17), (.op (.load (.t 16))), none⟩])
  (.block 0 (.seq (.block 5 (.block 4 (.seq (.block 3 (.seq (.block 2 (.seq (.block 1 (.seq (.seq (.seq (.reg [⟨(some 19), (.op (.bin .eql (.t 17) (.k (.int .u8 3)))), none⟩, ⟨(some 18), (.op (.mv (.t 19))), none⟩])
  (.cond (.t 18) (.exit 1)
  .skip))
  (.seq (.seq (.reg [⟨(some 21), (.op (.bin .eql (.t 17) (.k (.int .u8 4)))), none⟩, ⟨(some 20), (.op (.mv (.t 21))), none⟩])
  (.cond (.t 20) (.exit 2)
  .skip))
  (.seq (.seq (.reg [⟨(some 23), (.op (.bin .eql (.t 17) (.k (.int .u8 5)))), none⟩, ⟨(some 22), (.op (.mv (.t 23))), none⟩])
  (.cond (.t 22) (.exit 3)
  .skip))
  (.seq (.reg [⟨(some 25), (.op (.bin .eql (.t 17) (.k (.int .u8 2)))), none⟩, ⟨(some 24), (.op (.mv (.t 25))), none⟩])
  (.cond (.t 24) (.exit 4)
  .skip)))))
  (.exit 5)))
  (.seq (.seq (.reg [⟨(some 26), (.op (.faddr 0 (.t 7))), none⟩, ⟨none, (.op (.store 1 (.t 26) (.k (.int .u8 4)))), none⟩])
  (.reg [⟨(some 27), (.op (.mv (.t 2))), none⟩, ⟨(some 28), (.op (.nilchk (.t 27))), none⟩, ⟨(some 29), (.op (.faddr 1 (.t 28))), none⟩, ⟨(some 30), (.op (.load (.t 29))), none⟩, ⟨(some 31), (.call (.f 144) [(.t 30)]), none⟩]))
  (.exit 0))))
  (.seq (.seq (.reg [⟨(some 32), (.op (.faddr 0 (.t 7))), none⟩, ⟨none, (.op (.store 1 (.t 32) (.k (.int .u8 5)))), none⟩])
  (.reg [⟨(some 33), (.op (.mv (.t 2))), none⟩, ⟨(some 34), (.op (.nilchk (.t 33))), none⟩, ⟨(some 35), (.op (.faddr 1 (.t 34))), none⟩, ⟨(some 36), (.op (.load (.t 35))), none⟩, ⟨(some 37), (.call (.f 145) [(.t 36)]), none⟩]))
  (.exit 0))))
  (.seq (.seq (.reg [⟨(some 38), (.op (.faddr 0 (.t 7))), none⟩, ⟨none, (.op (.store 1 (.t 38) (.k (.int .u8 6)))), none⟩])
  (.reg [⟨(some 39), (.op (.mv (.t 2))), none⟩, ⟨(some 40), (.op (.nilchk (.t 39))), none⟩, ⟨(some 41), (.op (.faddr 1 (.t 40))), none⟩, ⟨(some 42), (.op (.load (.t 41))), none⟩, ⟨(some 43), (.call (.f 146) [(.t 42)]), none⟩]))
  (.exit 0)))))
  (.seq (.seq (.dreg (.quiet ⟨(some 44), (.op (.mv (.t 2))), none⟩ (.quiet ⟨(some 45), (.op (.nilchk (.t 44))), none⟩ (.quiet ⟨(some 46), (.op (.faddr 4 (.t 45))), none⟩ (.quiet ⟨(some 47), (.op (.faddr 1 (.t 46))), none⟩ (.quiet ⟨(some 48), (.op (.load (.t 47))), none⟩ (.quiet ⟨(some 49), (.op (.mv (.t 2))), none⟩ (.quiet ⟨(some 50), (.op (.nilchk (.t 49))), none⟩ (.quiet ⟨(some 51), (.op (.faddr 4 (.t 50))), none⟩ (.quiet ⟨(some 52), (.op (.faddr 2 (.t 51))), none⟩ (.quiet ⟨(some 53), (.op (.load (.t 52))), none⟩ (.quiet ⟨(some 54), (.op (.faddr 0 (.t 7))), none⟩ (.loud ⟨none, (.op (.store 1 (.t 54) (.k (.int .u8 3)))), none⟩ [⟨(some 53), (.op (.load (.t 52))), none⟩, ⟨(some 48), (.op (.load (.t 47))), none⟩] (.quiet ⟨(some 55), (.op (.faddr 2 (.t 7))), none⟩ (.loud ⟨none, (.op (.store 1 (.t 55) (.t 48))), none⟩ [⟨(some 53), (.op (.load (.t 52))), none⟩] (.quiet ⟨(some 56), (.op (.faddr 3 (.t 7))), none⟩ (.loud ⟨none, (.op (.store 1 (.t 56) (.t 53))), none⟩ [] .nil)))))))))))))))))
  (.seq (.dreg (.quiet ⟨(some 57), (.op (.mv (.t 2))), none⟩ (.quiet ⟨(some 58), (.op (.nilchk (.t 57))), none⟩ (.quiet ⟨(some 59), (.op (.faddr 1 (.t 58))), none⟩ (.quiet ⟨(some 60), (.op (.load (.t 59))), none⟩ (.quiet ⟨(some 61), (.op (.faddr 2 (.t 7))), none⟩ (.quiet ⟨(some 62), (.op (.load (.t 61))), none⟩ (.quiet ⟨(some 63), (.op (.faddr 3 (.t 7))), none⟩ (.quiet ⟨(some 64), (.op (.load (.t 63))), none⟩ (.loud ⟨(some 65), (.call (.f 147) [(.t 60), (.t 62), (.t 64)]), none⟩ [] (.quiet ⟨(some 66), (.op (.bin .neq (.t 65) (.k (.int .i64 0)))), none⟩ .nil)))))))))))
  (.cond (.t 66) (.seq (.reg [⟨(some 67), (.op (.mv (.t 0))), none⟩, ⟨(some 68), (.op (.mv (.t 1))), none⟩, ⟨(some 69), (.call (.f 86) [(.t 67), (.t 68), (.k (.int .u8 2))]), none⟩, ⟨none, (.op (.store 7 (.t 6) (.t 69))), none⟩])
  .ret)
  .skip)))
  (.exit 0)))))
  (.seq (.reg [⟨(some 70), (.op (.mv (.t 0))), none⟩, ⟨(some 71), (.op (.loadN 4 (.t 7))), none⟩, ⟨(some 72), (.call (.f 83) [(.t 70), (.t 71)]), none⟩])
  (.seq (.reg [⟨(some 73), (.op (.mv (.t 2))), none⟩, ⟨(some 74), (.call (.f 142) [(.t 73), (.k (.int .u64 0))]), none⟩, ⟨none, (.op (.store 7 (.t 6) (.t 74))), none⟩])
  .ret)))))
def a91 : AF := ⟨75, [(.c 6 true 7)], .code b91, none⟩
theorem ok91 : AFOk Tryz.prog ext 91 a91 := .of Tryz.func91 (by kernel_rfl) (by kernel_rfl) (by kernel_rfl) (by kernel_rfl)
/-! 92: (*rowlock/reads.Set).List -/
def b92 : AC :=
  (.seq (.reg [⟨(some 2), (.op (.mv (.k (.slice none 0 0)))), none⟩])
  (.seq (.seq (.reg [⟨(some 6), (.op (.mv (.t 0))), none⟩, ⟨(some 7), (.op (.eq false .ptr (.t 6) (.k (.pointer none)))), none⟩])
  (.cond (.t 7) (.seq (.reg [⟨(some 2), (.op (.mv (.k (.slice none 0 0)))), none⟩])
  .ret)
  .skip))
  (.seq (.reg [⟨(some 3), (.op (.mv (.k (.slice none 0 0)))), none⟩])
  (.seq (.seq (.reg [⟨(some 8), (.op (.mv (.t 0))), none⟩, ⟨(some 9), (.op (.nilchk (.t 8))), none⟩, ⟨(some 10), (.op (.faddr 0 (.t 9))), none⟩, ⟨(some 11), (.op (.load (.t 10))), none⟩, ⟨(some 12), (.op (.lenS (.t 11))), none⟩, ⟨(some 13), (.op (.mv (.k (.int .i64 0)))), none⟩])
  (.block 0 (.loop (.seq (.reg [⟨(some 14), (.op (.bin .lss (.t 13) (.t 12))), none⟩])
   (.seq (.cond (.t 14) .skip
   (.exit 0))
   (.seq (.block 1 (.seq (.reg [⟨(some 15), (.op (.iaddrS 1 (.t 11) (.t 13))), none⟩, ⟨(some 16), (.op (.load (.t 15))), none⟩, ⟨(some 5), (.op (.mv (.t 16))), none⟩])
   (.reg [⟨(some 17), (.op (.mv (.t 3))), none⟩, ⟨(some 18), (.op (.mv (.t 0))), none⟩, ⟨(some 19), (.op (.nilchk (.t 18))), none⟩, ⟨(some 20), (.op (.faddr 1 (.t 19))), none⟩, ⟨(some 21), (.op (.load (.t 20))), none⟩, ⟨(some 22), (.op (.mv (.t 5))), none⟩, ⟨(some 23), (.op (.lookup false (.agg #[(.int .i64 0), (.int .u64 0), (.int .u64 0)]) false (.t 21) (.t 22))), none⟩, ⟨(some 24), (.op (.bslice 155 [(.int .i64 0), (.int .u64 0), (.int .u64 0)] 1 [(0, 3, (.t 23))])), none⟩, ⟨(some 25), (.op (.append 155 3 24 (.t 17) (.t 24))), none⟩, ⟨(some 3), (.op (.mv (.t 25))), none⟩])))
   (.reg [⟨(some 26), (.op (.bin .add (.t 13) (.k (.int .i64 1)))), none⟩, ⟨(some 13), (.op (.mv (.t 26))), none⟩])))))))
  (.seq (.reg [⟨(some 27), (.op (.mv (.t 3))), none⟩, ⟨(some 2), (.op (.mv (.t 27))), none⟩])
  .ret)))))
def a92 : AF := ⟨28, [(.t 2)], .code b92, none⟩
theorem ok92 : AFOk Tryz.prog ext 92 a92 := .of Tryz.func92 (by kernel_rfl) (by kernel_rfl) (by kernel_rfl) (by kernel_rfl)
/-! 93: (*rowlock/writes.Log).All -/
def b93 : AC :=
  (.seq (.reg [⟨(some 2), (.op (.mv (.k (.slice none 0 0)))), none⟩])
  (.seq (.reg [⟨(some 3), (.op (.mv (.k (.slice none 0 0)))), none⟩])
  (.seq (.seq (.reg [⟨(some 7), (.op (.mv (.k (.int .i64 0)))), none⟩])
  (.block 0 (.loop (.seq (.reg [⟨(some 8), (.op (.bin .lss (.t 7) (.k (.int .i64 12)))), none⟩])
   (.seq (.cond (.t 8) .skip
   (.exit 0))
   (.seq (.block 1 (.seq (.reg [⟨(some 9), (.op (.mv (.t 7))), none⟩, ⟨(some 4), (.op (.mv (.t 9))), none⟩])
   (.seq (.reg [⟨(some 11), (.op (.mv (.t 0))), none⟩, ⟨(some 12), (.op (.mv (.t 4))), none⟩, ⟨(some 13), (.call (.f 88) [(.t 11), (.t 12)]), none⟩, ⟨(some 10), (.op (.mv (.t 13))), none⟩, ⟨(some 14), (.op (.extract (.t 10) 0)), none⟩, ⟨(some 15), (.op (.extract (.t 10) 1)), none⟩, ⟨(some 5), (.op (.mv (.t 14))), none⟩, ⟨(some 6), (.op (.mv (.t 15))), none⟩])
   (.seq (.reg [⟨(some 16), (.op (.mv (.t 6))), none⟩])
   (.cond (.t 16) (.reg [⟨(some 17), (.op (.mv (.t 3))), none⟩, ⟨(some 18), (.op (.mv (.t 4))), none⟩, ⟨(some 19), (.op (.mv (.t 5))), none⟩, ⟨(some 20), (.op (.build [(.int .i64 0), (.int .u64 0)] [(0, 1, (.t 18)), (1, 1, (.t 19))])), none⟩, ⟨(some 21), (.op (.bslice 157 [(.int .i64 0), (.int .u64 0)] 1 [(0, 2, (.t 20))])), none⟩, ⟨(some 22), (.op (.append 157 2 16 (.t 17) (.t 21))), none⟩, ⟨(some 3), (.op (.mv (.t 22))), none⟩])
   .skip)))))
   (.reg [⟨(some 23), (.op (.bin .add (.t 7) (.k (.int .i64 1)))), none⟩, ⟨(some 7), (.op (.mv (.t 23))), none⟩])))))))
  (.seq (.reg [⟨(some 24), (.op (.mv (.t 3))), none⟩, ⟨(some 2), (.op (.mv (.t 24))), none⟩])
  .ret))))
def a93 : AF := ⟨25, [(.t 2)], .code b93, none⟩
theorem ok93 : AFOk Tryz.prog ext 93 a93 := .of Tryz.func93 (by kernel_rfl) (by kernel_rfl) (by kernel_rfl) (by kernel_rfl)
/-! 94: (*rowlock/seqlock.Lock).Owner -/
def b94 : AC :=
  (.seq (.reg [⟨(some 2), (.op (.mv (.k (.int .i64 0)))), none⟩, ⟨(some 3), (.op (.mv (.k (.bool false)))), none⟩])
  (.seq (.seq (.reg [⟨(some 4), (.op (.mv (.t 0))), none⟩, ⟨(some 5), (.op (.eq false .ptr (.t 4) (.k (.pointer none)))), none⟩, ⟨(some 6), (.op (.mv (.t 5))), none⟩, ⟨(some 7), (.op (.mv (.t 0))), (some (6, false))⟩, ⟨(some 8), (.op (.nilchk (.t 7))), (some (6, false))⟩, ⟨(some 9), (.op (.faddr 0 (.t 8))), (some (6, false))⟩, ⟨(some 10), (.op (.load (.t 9))), (some (6, false))⟩, ⟨(some 11), (.op (.eq false .ptr (.t 10) (.k (.pointer none)))), (some (6, false))⟩, ⟨(some 12), (.op (.pick (.t 6) (.k (.bool true)) (.t 11))), none⟩])
  (.cond (.t 12) (.seq (.reg [⟨(some 2), (.op (.mv (.k (.int .i64 0)))), none⟩, ⟨(some 3), (.op (.mv (.k (.bool false)))), none⟩])
  .ret)
  .skip))
  (.seq (.reg [⟨(some 13), (.op (.mv (.t 0))), none⟩, ⟨(some 14), (.op (.nilchk (.t 13))), none⟩, ⟨(some 15), (.op (.faddr 0 (.t 14))), none⟩, ⟨(some 16), (.op (.load (.t 15))), none⟩, ⟨(some 17), (.op (.nilchk (.t 16))), none⟩, ⟨(some 18), (.op (.load (.t 17))), none⟩, ⟨(some 2), (.op (.mv (.t 18))), none⟩, ⟨(some 3), (.op (.mv (.k (.bool true)))), none⟩])
  .ret)))
def a94 : AF := ⟨19, [(.t 2), (.t 3)], .code b94, none⟩
theorem ok94 : AFOk Tryz.prog ext 94 a94 := .of Tryz.func94 (by kernel_rfl) (by kernel_rfl) (by kernel_rfl) (by kernel_rfl)
/-! 95: (*rowlock/reads.Set).Valid -/
def b95 : AC :=
  (.seq (.reg [⟨(some 4), (.op (.mv (.k (.bool false)))), none⟩])
  (.seq (.reg [⟨(some 8), (.op (.mv (.t 0))), none⟩, ⟨(some 9), (.op (.mv (.t 1))), none⟩, ⟨(some 10), (.call (.f 148) [(.t 8), (.t 9)]), none⟩, ⟨(some 7), (.op (.mv (.t 10))), none⟩, ⟨(some 11), (.op (.extract (.t 7) 0)), none⟩, ⟨(some 12), (.op (.extract (.t 7) 1)), none⟩, ⟨(some 5), (.op (.mv (.t 11))), none⟩, ⟨(some 6), (.op (.mv (.t 12))), none⟩])
  (.seq (.reg [⟨(some 13), (.op (.mv (.t 0))), none⟩, ⟨(some 14), (.op (.eq true .ptr (.t 13) (.k (.pointer none)))), none⟩, ⟨(some 15), (.op (.mv (.t 14))), none⟩, ⟨(some 16), (.op (.mv (.t 6))), (some (15, true))⟩, ⟨(some 17), (.op (.un .not (.t 16))), (some (15, true))⟩, ⟨(some 18), (.op (.pick (.t 15) (.t 17) (.k (.bool false)))), none⟩, ⟨(some 4), (.op (.mv (.t 18))), none⟩])
  .ret)))
def a95 : AF := ⟨19, [(.t 4)], .code b95, none⟩
theorem ok95 : AFOk Tryz.prog ext 95 a95 := .of Tryz.func95 (by kernel_rfl) (by kernel_rfl) (by kernel_rfl) (by kernel_rfl)
/-! 96: rowlock/value.Right -/
def b96 : AC :=
  (.seq (.reg [⟨(some 2), (.op (.mv (.k (.bool false)))), none⟩])
  (.seq (.reg [⟨(some 3), (.op (.mv (.t 0))), none⟩, ⟨(some 4), (.op (.bin .andNot (.t 3) (.k (.int .u64 9223372036854775808)))), none⟩, ⟨(some 5), (.op (.bin .leq (.t 4) (.k (.int .u64 9218868437227405312)))), none⟩, ⟨(some 6), (.op (.mv (.t 5))), none⟩, ⟨(some 7), (.op (.mv (.t 0))), (some (6, false))⟩, ⟨(some 8), (.op (.bin .eql (.t 7) (.k (.int .u64 9221120237041090560)))), (some (6, false))⟩, ⟨(some 9), (.op (.pick (.t 6) (.k (.bool true)) (.t 8))), none⟩, ⟨(some 2), (.op (.mv (.t 9))), none⟩])
  .ret))
def a96 : AF := ⟨10, [(.t 2)], .code b96, none⟩
theorem ok96 : AFOk Tryz.prog ext 96 a96 := .of Tryz.func96 (by kernel_rfl) (by kernel_rfl) (by kernel_rfl) (by kernel_rfl)
/-! 97: rowlock/seqlock.New -/
def b97 : AC :=
  (.seq (.reg [⟨(some 0), (.op (.mv (.k (.pointer none)))), none⟩])
  (.seq (.reg [⟨(some 1), (.op (.build [(.pointer none), (.int .u64 0)] [])), none⟩, ⟨(some 2), (.op (.box 152 (.t 1))), none⟩, ⟨(some 0), (.op (.mv (.t 2))), none⟩])
  .ret))
def a97 : AF := ⟨3, [(.t 0)], .code b97, none⟩
theorem ok97 : AFOk Tryz.prog ext 97 a97 := .of Tryz.func97 (by kernel_rfl) (by kernel_rfl) (by kernel_rfl) (by kernel_rfl)
/-! 98: rowlock/rowlockref01.Right -/
def b98 : AC :=
  (.seq (.reg [⟨(some 2), (.op (.mv (.k (.bool false)))), none⟩])
  (.seq (.reg [⟨(some 4), (.op (.mv (.t 0))), none⟩, ⟨(some 5), (.op (.frombits (.t 4))), none⟩, ⟨(some 3), (.op (.mv (.t 5))), none⟩])
  (.seq (.reg [⟨(some 6), (.op (.mv (.t 3))), none⟩, ⟨(some 7), (.op (.mv (.t 3))), none⟩, ⟨(some 8), (.op (.bin .eql (.t 6) (.t 7))), none⟩, ⟨(some 9), (.op (.mv (.t 8))), none⟩, ⟨(some 10), (.op (.mv (.t 0))), (some (9, false))⟩, ⟨(some 11), (.op (.bin .eql (.t 10) (.k (.int .u64 9221120237041090560)))), (some (9, false))⟩, ⟨(some 12), (.op (.pick (.t 9) (.k (.bool true)) (.t 11))), none⟩, ⟨(some 2), (.op (.mv (.t 12))), none⟩])
  .ret)))
def a98 : AF := ⟨13, [(.t 2)], .code b98, none⟩
theorem ok98 : AFOk Tryz.prog ext 98 a98 := .of Tryz.func98 (by kernel_rfl) (by kernel_rfl) (by kernel_rfl) (by kernel_rfl)
/-! 105: cmp.isNaN[uint64] -/
def b105 : AC :=
  (.seq (.reg [⟨(some 2), (.op (.mv (.k (.bool false)))), none⟩])
  (.seq (.reg [⟨(some 3), (.op (.mv (.t 0))), none⟩, ⟨(some 4), (.op (.mv (.t 0))), none⟩, ⟨(some 5), (.op (.bin .neq (.t 3) (.t 4))), none⟩, ⟨(some 2), (.op (.mv (.t 5))), none⟩])
  .ret))
def a105 : AF := ⟨6, [(.t 2)], .code b105, none⟩
theorem ok105 : AFOk Tryz.prog ext 105 a105 := .of Tryz.func105 (by kernel_rfl) (by kernel_rfl) (by kernel_rfl) (by kernel_rfl)
/-! 106: slices.pdqsortOrdered[int] -/
def b106 : AC :=
  (.seq (.reg [⟨(some 8), (.op (.mv (.k (.bool true)))), none⟩])
  (.seq (.reg [⟨(some 9), (.op (.mv (.k (.bool true)))), none⟩])
  (.block 0 (.loop (.block 1 (.seq (.reg [⟨(some 19), (.op (.mv (.t 2))), none⟩, ⟨(some 20), (.op (.mv (.t 1))), none⟩, ⟨(some 21), (.op (.bin .sub (.t 19) (.t 20))), none⟩, ⟨(some 10), (.op (.mv (.t 21))), none⟩])
   (.seq (.seq (.reg [⟨(some 22), (.op (.mv (.t 10))), none⟩, ⟨(some 23), (.op (.bin .leq (.t 22) (.k (.int .i64 12)))), none⟩])
   (.cond (.t 23) (.seq (.reg [⟨(some 24), (.op (.mv (.t 0))), none⟩, ⟨(some 25), (.op (.mv (.t 1))), none⟩, ⟨(some 26), (.op (.mv (.t 2))), none⟩, ⟨(some 27), (.call (.f 156) [(.t 24), (.t 25), (.t 26)]), none⟩])
   .ret)
   .skip))
   (.seq (.seq (.reg [⟨(some 28), (.op (.mv (.t 3))), none⟩, ⟨(some 29), (.op (.bin .eql (.t 28) (.k (.int .i64 0)))), none⟩])
   (.cond (.t 29) (.seq (.reg [⟨(some 30), (.op (.mv (.t 0))), none⟩, ⟨(some 31), (.op (.mv (.t 1))), none⟩, ⟨(some 32), (.op (.mv (.t 2))), none⟩, ⟨(some 33), (.call (.f 157) [(.t 30), (.t 31), (.t 32)]), none⟩])
   .ret)
   .skip))
   (.seq (.seq (.reg [⟨(some 34), (.op (.mv (.t 8))), none⟩, ⟨(some 35), (.op (.un .not (.t 34))), none⟩])
   (.cond (.t 35) (.seq (.reg [⟨(some 36), (.op (.mv (.t 0))), none⟩, ⟨(some 37), (.op (.mv (.t 1))), none⟩, ⟨(some 38), (.op (.mv (.t 2))), none⟩, ⟨(some 39), (.call (.f 158) [(.t 36), (.t 37), (.t 38)]), none⟩])
   (.reg [⟨(some 40), (.op (.mv (.t 3))), none⟩, ⟨(some 41), (.op (.bin .sub (.t 40) (.k (.int .i64 1)))), none⟩, ⟨(some 3), (.op (.mv (.t 41))), none⟩]))
   .skip))
   (.seq (.reg [⟨(some 43), (.op (.mv (.t 0))), none⟩, ⟨(some 44), (.op (.mv (.t 1))), none⟩, ⟨(some 45), (.op (.mv (.t 2))), none⟩, ⟨(some 46), (.call (.f 159) [(.t 43), (.t 44), (.t 45)]), none⟩, ⟨(some 42), (.op (.mv (.t 46))), none⟩, ⟨(some 47), (.op (.extract (.t 42) 0)), none⟩, ⟨(some 48), (.op (.extract (.t 42) 1)), none⟩, ⟨(some 11), (.op (.mv (.t 47))), none⟩, ⟨(some 12), (.op (.mv (.t 48))), none⟩])
   (.seq (.seq (.reg [⟨(some 49), (.op (.mv (.t 12))), none⟩, ⟨(some 50), (.op (.bin .eql (.t 49) (.k (.int .i64 2)))), none⟩])
   (.cond (.t 50) (.seq (.reg [⟨(some 51), (.op (.mv (.t 0))), none⟩, ⟨(some 52), (.op (.mv (.t 1))), none⟩, ⟨(some 53), (.op (.mv (.t 2))), none⟩, ⟨(some 54), (.call (.f 160) [(.t 51), (.t 52), (.t 53)]), none⟩])
   (.seq (.reg [⟨(some 55), (.op (.mv (.t 2))), none⟩, ⟨(some 56), (.op (.bin .sub (.t 55) (.k (.int .i64 1)))), none⟩, ⟨(some 57), (.op (.mv (.t 11))), none⟩, ⟨(some 58), (.op (.mv (.t 1))), none⟩, ⟨(some 59), (.op (.bin .sub (.t 57) (.t 58))), none⟩, ⟨(some 60), (.op (.bin .sub (.t 56) (.t 59))), none⟩, ⟨(some 11), (.op (.mv (.t 60))), none⟩])
   (.reg [⟨(some 12), (.op (.mv (.k (.int .i64 1)))), none⟩])))
   .skip))
   (.seq (.seq (.reg [⟨(some 61), (.op (.mv (.t 8))), none⟩, ⟨(some 62), (.op (.mv (.t 61))), none⟩, ⟨(some 63), (.op (.mv (.t 9))), (some (62, true))⟩, ⟨(some 64), (.op (.pick (.t 62) (.t 63) (.k (.bool false)))), none⟩, ⟨(some 65), (.op (.mv (.t 64))), none⟩, ⟨(some 66), (.op (.mv (.t 12))), (some (65, true))⟩, ⟨(some 67), (.op (.bin .eql (.t 66) (.k (.int .i64 1)))), (some (65, true))⟩, ⟨(some 68), (.op (.pick (.t 65) (.t 67) (.k (.bool false)))), none⟩])
   (.cond (.t 68) (.seq (.reg [⟨(some 69), (.op (.mv (.t 0))), none⟩, ⟨(some 70), (.op (.mv (.t 1))), none⟩, ⟨(some 71), (.op (.mv (.t 2))), none⟩, ⟨(some 72), (.call (.f 161) [(.t 69), (.t 70), (.t 71)]), none⟩])
   (.cond (.t 72) .ret
   .skip))
   .skip))
   (.seq (.seq (.dreg (.quiet ⟨(some 73), (.op (.mv (.t 1))), none⟩ (.quiet ⟨(some 74), (.op (.bin .gtr (.t 73) (.k (.int .i64 0)))), none⟩ (.quiet ⟨(some 75), (.op (.mv (.t 74))), none⟩ (.quiet ⟨(some 76), (.op (.mv (.t 0))), (some (75, true))⟩ (.quiet ⟨(some 77), (.op (.mv (.t 1))), (some (75, true))⟩ (.quiet ⟨(some 78), (.op (.bin .sub (.t 77) (.k (.int .i64 1)))), (some (75, true))⟩ (.quiet ⟨(some 79), (.op (.iaddrS 1 (.t 76) (.t 78))), (some (75, true))⟩ (.quiet ⟨(some 80), (.op (.load (.t 79))), (some (75, true))⟩ (.quiet ⟨(some 81), (.op (.mv (.t 0))), (some (75, true))⟩ (.quiet ⟨(some 82), (.op (.mv (.t 11))), (some (75, true))⟩ (.quiet ⟨(some 83), (.op (.iaddrS 1 (.t 81) (.t 82))), (some (75, true))⟩ (.quiet ⟨(some 84), (.op (.load (.t 83))), (some (75, true))⟩ (.loud ⟨(some 85), (.call (.f 162) [(.t 80), (.t 84)]), (some (75, true))⟩ [] (.quiet ⟨(some 86), (.op (.un .not (.t 85))), (some (75, true))⟩ (.quiet ⟨(some 87), (.op (.pick (.t 75) (.t 86) (.k (.bool false)))), none⟩ .nil))))))))))))))))
   (.cond (.t 87) (.seq (.reg [⟨(some 88), (.op (.mv (.t 0))), none⟩, ⟨(some 89), (.op (.mv (.t 1))), none⟩, ⟨(some 90), (.op (.mv (.t 2))), none⟩, ⟨(some 91), (.op (.mv (.t 11))), none⟩, ⟨(some 92), (.call (.f 163) [(.t 88), (.t 89), (.t 90), (.t 91)]), none⟩, ⟨(some 13), (.op (.mv (.t 92))), none⟩])
   (.seq (.reg [⟨(some 93), (.op (.mv (.t 13))), none⟩, ⟨(some 1), (.op (.mv (.t 93))), none⟩])
   (.exit 1)))
   .skip))
   (.seq (.reg [⟨(some 95), (.op (.mv (.t 0))), none⟩, ⟨(some 96), (.op (.mv (.t 1))), none⟩, ⟨(some 97), (.op (.mv (.t 2))), none⟩, ⟨(some 98), (.op (.mv (.t 11))), none⟩, ⟨(some 99), (.call (.f 164) [(.t 95), (.t 96), (.t 97), (.t 98)]), none⟩, ⟨(some 94), (.op (.mv (.t 99))), none⟩, ⟨(some 100), (.op (.extract (.t 94) 0)), none⟩, ⟨(some 101), (.op (.extract (.t 94) 1)), none⟩, ⟨(some 14), (.op (.mv (.t 100))), none⟩, ⟨(some 15), (.op (.mv (.t 101))), none⟩])
   (.seq (.reg [⟨(some 102), (.op (.mv (.t 15))), none⟩, ⟨(some 9), (.op (.mv (.t 102))), none⟩])
   (.seq (.reg [⟨(some 103), (.op (.mv (.t 14))), none⟩, ⟨(some 104), (.op (.mv (.t 1))), none⟩, ⟨(some 105), (.op (.bin .sub (.t 103) (.t 104))), none⟩, ⟨(some 106), (.op (.mv (.t 2))), none⟩, ⟨(some 107), (.op (.mv (.t 14))), none⟩, ⟨(some 108), (.op (.bin .sub (.t 106) (.t 107))), none⟩, ⟨(some 16), (.op (.mv (.t 105))), none⟩, ⟨(some 17), (.op (.mv (.t 108))), none⟩])
   (.seq (.reg [⟨(some 109), (.op (.mv (.t 10))), none⟩, ⟨(some 110), (.op (.bin .quo (.t 109) (.k (.int .i64 8)))), none⟩, ⟨(some 18), (.op (.mv (.t 110))), none⟩])
   (.seq (.reg [⟨(some 111), (.op (.mv (.t 16))), none⟩, ⟨(some 112), (.op (.mv (.t 17))), none⟩, ⟨(some 113), (.op (.bin .lss (.t 111) (.t 112))), none⟩])
   (.cond (.t 113) (.seq (.reg [⟨(some 114), (.op (.mv (.t 16))), none⟩, ⟨(some 115), (.op (.mv (.t 18))), none⟩, ⟨(some 116), (.op (.bin .geq (.t 114) (.t 115))), none⟩, ⟨(some 8), (.op (.mv (.t 116))), none⟩])
   (.seq (.reg [⟨(some 117), (.op (.mv (.t 0))), none⟩, ⟨(some 118), (.op (.mv (.t 1))), none⟩, ⟨(some 119), (.op (.mv (.t 14))), none⟩, ⟨(some 120), (.op (.mv (.t 3))), none⟩, ⟨(some 121), (.call (.f 106) [(.t 117), (.t 118), (.t 119), (.t 120)]), none⟩])
   (.reg [⟨(some 122), (.op (.mv (.t 14))), none⟩, ⟨(some 123), (.op (.bin .add (.t 122) (.k (.int .i64 1)))), none⟩, ⟨(some 1), (.op (.mv (.t 123))), none⟩])))
   (.seq (.reg [⟨(some 124), (.op (.mv (.t 17))), none⟩, ⟨(some 125), (.op (.mv (.t 18))), none⟩, ⟨(some 126), (.op (.bin .geq (.t 124) (.t 125))), none⟩, ⟨(some 8), (.op (.mv (.t 126))), none⟩])
   (.seq (.reg [⟨(some 127), (.op (.mv (.t 0))), none⟩, ⟨(some 128), (.op (.mv (.t 14))), none⟩, ⟨(some 129), (.op (.bin .add (.t 128) (.k (.int .i64 1)))), none⟩, ⟨(some 130), (.op (.mv (.t 2))), none⟩, ⟨(some 131), (.op (.mv (.t 3))), none⟩, ⟨(some 132), (.call (.f 106) [(.t 127), (.t 129), (.t 130), (.t 131)]), none⟩])
   (.reg [⟨(some 133), (.op (.mv (.t 14))), none⟩, ⟨(some 2), (.op (.mv (.t 133))), none⟩]))))))))))))))))))))))
def a106 : AF := ⟨134, [], .code b106, none⟩
theorem ok106 : AFOk Tryz.prog ext 106 a106 := .of Tryz.func106 (by kernel_rfl) (by kernel_rfl) (by kernel_rfl) (by kernel_rfl)
/-! 107: math/bits.Len -/
def b107 : AC :=
  (.seq (.reg [⟨(some 2), (.op (.mv (.k (.int .i64 0)))), none⟩])
  (.seq (.cond (.k (.bool false)) (.seq (.reg [⟨(some 3), (.op (.mv (.t 0))), none⟩, ⟨(some 4), (.op (.conv (.int .u32) (.t 3))), none⟩, ⟨(some 5), (.call (.f 165) [(.t 4)]), none⟩, ⟨(some 2), (.op (.mv (.t 5))), none⟩])
  .ret)
  .skip)
  (.seq (.reg [⟨(some 6), (.op (.mv (.t 0))), none⟩, ⟨(some 7), (.call (.f 166) [(.t 6)]), none⟩, ⟨(some 2), (.op (.mv (.t 7))), none⟩])
  .ret)))
def a107 : AF := ⟨8, [(.t 2)], .code b107, none⟩
theorem ok107 : AFOk Tryz.prog ext 107 a107 := .of Tryz.func107 (by kernel_rfl) (by kernel_rfl) (by kernel_rfl) (by kernel_rfl)
/-! 115: slices.Clone[[]int,int] -/
def b115 : AC :=
  (.seq (.reg [⟨(some 2), (.op (.mv (.k (.slice none 0 0)))), none⟩])
  (.seq (.seq (.reg [⟨(some 3), (.op (.mv (.t 0))), none⟩, ⟨(some 4), (.isnil false (.t 3)), none⟩])
  (.cond (.t 4) (.seq (.reg [⟨(some 2), (.op (.mv (.k (.slice none 0 0)))), none⟩])
  .ret)
  .skip))
  (.seq (.reg [⟨(some 5), (.op (.bslice 3 [] 0 [])), none⟩, ⟨(some 6), (.op (.mv (.t 0))), none⟩, ⟨(some 7), (.op (.append 3 1 8 (.t 5) (.t 6))), none⟩, ⟨(some 2), (.op (.mv (.t 7))), none⟩])
  .ret)))
def a115 : AF := ⟨8, [(.t 2)], .code b115, none⟩
theorem ok115 : AFOk Tryz.prog ext 115 a115 := .of Tryz.func115 (by kernel_rfl) (by kernel_rfl) (by kernel_rfl) (by kernel_rfl)
/-! 118: rowlock/rowlockref06.New -/
def b118 : AC :=
  (.seq (.reg [⟨(some 0), (.op (.mv (.k (.pointer none)))), none⟩])
  (.seq (.reg [⟨(some 1), (.op (.build [(.slice none 0 0)] [])), none⟩, ⟨(some 2), (.op (.box 170 (.t 1))), none⟩, ⟨(some 0), (.op (.mv (.t 2))), none⟩])
  .ret))
def a118 : AF := ⟨3, [(.t 0)], .code b118, none⟩
theorem ok118 : AFOk Tryz.prog ext 118 a118 := .of Tryz.func118 (by kernel_rfl) (by kernel_rfl) (by kernel_rfl) (by kernel_rfl)
/-! 128: rowlock/seqlock.attempt -/
def b128 : AB :=
  (.thn (.reg [⟨(some 2), (.op (.alloc 26 [(.int .i64 0)])), none⟩])
  (.dfr [⟨(some 3), (.op (.mkfunc 183 [] [(.t 2)])), none⟩] (.t 3)
  (.seq (.reg [⟨(some 4), (.op (.mv (.t 0))), none⟩, ⟨(some 5), (.call (.t 4) []), none⟩])
  (.seq (.reg [⟨none, (.op (.store 1 (.t 2) (.k (.int .i64 0)))), none⟩])
  .ret))))
def a128 : AF := ⟨6, [(.c 2 false 1)], b128, none⟩
theorem ok128 : AFOk Tryz.prog ext 128 a128 := .of Tryz.func128 (by kernel_rfl) (by kernel_rfl) (by kernel_rfl) (by kernel_rfl)
/-! 129: (*rowlock/seqlock.Lock).Snapshot$1 -/
def b129 : AC :=
  (.seq (.reg [⟨(some 2), (.op (.load (.t 0))), none⟩, ⟨(some 3), (.op (.eq true .ptr (.t 2) (.k (.pointer none)))), none⟩, ⟨(some 4), (.call (.f 130) [(.t 3), (.k (.int .i64 1))]), none⟩])
  (.seq (.reg [⟨(some 5), (.op (.load (.t 0))), none⟩, ⟨(some 6), (.op (.nilchk (.t 5))), none⟩, ⟨(some 7), (.op (.faddr 0 (.t 6))), none⟩, ⟨(some 8), (.op (.load (.t 7))), none⟩, ⟨(some 9), (.op (.eq false .ptr (.t 8) (.k (.pointer none)))), none⟩, ⟨(some 10), (.call (.f 130) [(.t 9), (.k (.int .i64 7))]), none⟩])
  (.reg [⟨(some 11), (.op (.load (.t 0))), none⟩, ⟨(some 12), (.op (.nilchk (.t 11))), none⟩, ⟨(some 13), (.op (.faddr 1 (.t 12))), none⟩, ⟨(some 14), (.op (.load (.t 13))), none⟩, ⟨none, (.op (.store 1 (.t 1) (.t 14))), none⟩])))
def a129 : AF := ⟨15, [], .code b129, none⟩
theorem ok129 : AFOk Tryz.prog ext 129 a129 := .of Tryz.func129 (by kernel_rfl) (by kernel_rfl) (by kernel_rfl) (by kernel_rfl)
/-! 130: rowlock/seqlock.need -/
def b130 : AC :=
  (.seq (.reg [⟨(some 4), (.op (.mv (.t 0))), none⟩, ⟨(some 5), (.op (.un .not (.t 4))), none⟩])
  (.cond (.t 5) (.reg [⟨(some 6), (.op (.mv (.t 1))), none⟩, ⟨(some 7), (.op (.build [(.int .i64 0)] [(0, 1, (.t 6))])), none⟩, ⟨(some 8), (.op (.mkiface 218 (.t 7))), none⟩, ⟨none, (.panic (.t 8)), none⟩])
  .skip))
def a130 : AF := ⟨9, [], .code b130, none⟩
theorem ok130 : AFOk Tryz.prog ext 130 a130 := .of Tryz.func130 (by kernel_rfl) (by kernel_rfl) (by kernel_rfl) (by kernel_rfl)
/-! 131: (*rowlock/writes.stack[rowlock/writes.frame]).push -/
def b131 : AC :=
  (.seq (.reg [⟨(some 4), (.op (.mv (.k (.pointer none)))), none⟩])
  (.seq (.reg [⟨(some 5), (.op (.mv (.t 1))), none⟩, ⟨(some 6), (.op (.mv (.t 0))), none⟩, ⟨(some 7), (.op (.build [(.slice none 0 0), (.pointer none)] [(0, 1, (.t 5)), (1, 1, (.t 6))])), none⟩, ⟨(some 8), (.op (.box 220 (.t 7))), none⟩, ⟨(some 4), (.op (.mv (.t 8))), none⟩])
  .ret))
def a131 : AF := ⟨9, [(.t 4)], .code b131, none⟩
theorem ok131 : AFOk Tryz.prog ext 131 a131 := .of Tryz.func131 (by kernel_rfl) (by kernel_rfl) (by kernel_rfl) (by kernel_rfl)
/-! 132: (*rowlock/writes.Log).Depth -/
def b132 : AC :=
  (.seq (.reg [⟨(some 2), (.op (.mv (.k (.int .i64 0)))), none⟩])
  (.seq (.seq (.reg [⟨(some 3), (.op (.mv (.t 0))), none⟩, ⟨(some 4), (.op (.eq false .ptr (.t 3) (.k (.pointer none)))), none⟩])
  (.cond (.t 4) (.seq (.reg [⟨(some 2), (.op (.mv (.k (.int .i64 0)))), none⟩])
  .ret)
  .skip))
  (.seq (.reg [⟨(some 5), (.op (.mv (.t 0))), none⟩, ⟨(some 6), (.op (.nilchk (.t 5))), none⟩, ⟨(some 7), (.op (.faddr 1 (.t 6))), none⟩, ⟨(some 8), (.op (.load (.t 7))), none⟩, ⟨(some 2), (.op (.mv (.t 8))), none⟩])
  .ret)))
def a132 : AF := ⟨9, [(.t 2)], .code b132, none⟩
theorem ok132 : AFOk Tryz.prog ext 132 a132 := .of Tryz.func132 (by kernel_rfl) (by kernel_rfl) (by kernel_rfl) (by kernel_rfl)
/-! 133: rowlock/value.Same -/
def b133 : AC :=
  (.seq (.reg [⟨(some 4), (.op (.mv (.k (.bool false)))), none⟩])
  (.seq (.reg [⟨(some 5), (.op (.mv (.t 0))), none⟩, ⟨(some 6), (.call (.f 184) [(.t 5)]), none⟩, ⟨(some 7), (.op (.mv (.t 1))), none⟩, ⟨(some 8), (.call (.f 184) [(.t 7)]), none⟩, ⟨(some 9), (.op (.bin .eql (.t 6) (.t 8))), none⟩, ⟨(some 4), (.op (.mv (.t 9))), none⟩])
  .ret))
def a133 : AF := ⟨10, [(.t 4)], .code b133, none⟩
theorem ok133 : AFOk Tryz.prog ext 133 a133 := .of Tryz.func133 (by kernel_rfl) (by kernel_rfl) (by kernel_rfl) (by kernel_rfl)
/-! 134: (*rowlock/seqlock.Lock).Since -/
def b134 : AC :=
  (.seq (.reg [⟨(some 4), (.op (.mv (.k (.bool false)))), none⟩])
  (.seq (.reg [⟨(some 5), (.op (.mv (.t 0))), none⟩, ⟨(some 6), (.op (.eq true .ptr (.t 5) (.k (.pointer none)))), none⟩, ⟨(some 7), (.op (.mv (.t 6))), none⟩, ⟨(some 8), (.op (.mv (.t 0))), (some (7, true))⟩, ⟨(some 9), (.op (.nilchk (.t 8))), (some (7, true))⟩, ⟨(some 10), (.op (.faddr 1 (.t 9))), (some (7, true))⟩, ⟨(some 11), (.op (.load (.t 10))), (some (7, true))⟩, ⟨(some 12), (.op (.mv (.t 1))), (some (7, true))⟩, ⟨(some 13), (.op (.bin .eql (.t 11) (.t 12))), (some (7, true))⟩, ⟨(some 14), (.op (.pick (.t 7) (.t 13) (.k (.bool false)))), none⟩, ⟨(some 4), (.op (.mv (.t 14))), none⟩])
  .ret))
def a134 : AF := ⟨15, [(.t 4)], .code b134, none⟩
theorem ok134 : AFOk Tryz.prog ext 134 a134 := .of Tryz.func134 (by kernel_rfl) (by kernel_rfl) (by kernel_rfl) (by kernel_rfl)
/-! 135: (*rowlock/seqlock.Lock).Break -/
def b135 : AC :=
  (.seq (.reg [⟨(some 4), (.op (.mv (.k (.int .i64 0)))), none⟩])
  (.seq (.reg [⟨(some 5), (.op (.mv (.t 0))), none⟩, ⟨(some 6), (.op (.mv (.t 1))), none⟩, ⟨(some 7), (.call (.f 185) [(.t 5), (.t 6), (.f 186)]), none⟩, ⟨(some 4), (.op (.mv (.t 7))), none⟩])
  .ret))
def a135 : AF := ⟨8, [(.t 4)], .code b135, none⟩
theorem ok135 : AFOk Tryz.prog ext 135 a135 := .of Tryz.func135 (by kernel_rfl) (by kernel_rfl) (by kernel_rfl) (by kernel_rfl)
/-! 136: (*rowlock/norec.Engine).commit -/
def b136 : AC :=
  (.seq (.reg [⟨(some 4), (.op (.alloc 63 [(.bool false), (.int .u64 0), (.bool false), (.int .i64 0), (.bool false), (.int .u8 0), (.int .i64 0)])), none⟩])
  (.seq (.reg [⟨(some 5), (.op (.mv (.t 0))), none⟩, ⟨(some 6), (.op (.mv (.t 0))), none⟩, ⟨(some 7), (.op (.nilchk (.t 6))), none⟩, ⟨(some 8), (.op (.faddr 2 (.t 7))), none⟩, ⟨(some 9), (.op (.load (.t 8))), none⟩, ⟨(some 10), (.op (.mv (.t 1))), none⟩, ⟨(some 11), (.op (.lookup false (.pointer none) false (.t 9) (.t 10))), none⟩, ⟨(some 12), (.op (.nilchk (.t 11))), none⟩, ⟨(some 13), (.op (.faddr 2 (.t 12))), none⟩, ⟨(some 14), (.op (.load (.t 13))), none⟩, ⟨(some 15), (.op (.build [(.int .u8 0), (.int .i64 0), (.int .i64 0), (.int .u64 0)] [(0, 1, (.k (.int .u8 8))), (1, 1, (.t 14))])), none⟩, ⟨(some 16), (.call (.f 83) [(.t 5), (.t 15)]), none⟩])
  (.seq (.reg [⟨(some 17), (.op (.mv (.t 0))), none⟩, ⟨(some 18), (.op (.nilchk (.t 17))), none⟩, ⟨(some 19), (.op (.faddr 2 (.t 18))), none⟩, ⟨(some 20), (.op (.load (.t 19))), none⟩, ⟨(some 21), (.op (.mv (.t 1))), none⟩, ⟨none, (.op (.delete false (.t 20) (.t 21))), none⟩])
  (.seq (.reg [⟨(some 22), (.op (.build [(.bool false), (.int .u64 0), (.bool false), (.int .i64 0), (.bool false), (.int .u8 0), (.int .i64 0)] [(0, 1, (.k (.bool true))), (4, 1, (.k (.bool true)))])), none⟩, ⟨none, (.op (.store 7 (.t 4) (.t 22))), none⟩])
  .ret))))
def a136 : AF := ⟨23, [(.c 4 true 7)], .code b136, none⟩
theorem ok136 : AFOk Tryz.prog ext 136 a136 := .of Tryz.func136 (by kernel_rfl) (by kernel_rfl) (by kernel_rfl) (by kernel_rfl)
/-! 137: (*rowlock/seqlock.Lock).Try -/
def b137 : AC :=
  (.seq (.reg [⟨(some 3), (.op (.box 85 (.t 0))), none⟩, ⟨(some 4), (.op (.box 3 (.t 1))), none⟩, ⟨(some 5), (.op (.box 38 (.t 2))), none⟩, ⟨(some 6), (.op (.mv (.k (.int .i64 0)))), none⟩])
  (.seq (.reg [⟨(some 7), (.op (.mkfunc 187 [] [(.t 3), (.t 4), (.t 5)])), none⟩, ⟨(some 8), (.call (.f 128) [(.t 7)]), none⟩, ⟨(some 6), (.op (.mv (.t 8))), none⟩])
  .ret))
def a137 : AF := ⟨9, [(.t 6)], .code b137, none⟩
theorem ok137 : AFOk Tryz.prog ext 137 a137 := .of Tryz.func137 (by kernel_rfl) (by kernel_rfl) (by kernel_rfl) (by kernel_rfl)
/-! 138: (*rowlock/norec.attempt).look -/
def b138 : AC :=
  (.seq (.reg [⟨(some 4), (.op (.alloc 63 [(.bool false), (.int .u64 0), (.bool false), (.int .i64 0), (.bool false), (.int .u8 0), (.int .i64 0)])), none⟩])
  (.seq (.reg [⟨(some 5), (.op (.mv (.t 0))), none⟩, ⟨(some 6), (.op (.mv (.t 0))), none⟩, ⟨(some 7), (.op (.mv (.t 1))), none⟩, ⟨(some 8), (.op (.nilchk (.t 5))), none⟩, ⟨(some 9), (.op (.faddr 7 (.t 8))), none⟩, ⟨none, (.op (.store 1 (.t 9) (.k (.int .i64 4)))), none⟩, ⟨(some 10), (.op (.nilchk (.t 6))), none⟩, ⟨(some 11), (.op (.faddr 8 (.t 10))), none⟩, ⟨none, (.op (.store 1 (.t 11) (.t 7))), none⟩])
  (.seq (.reg [⟨(some 12), (.op (.build [(.bool false), (.int .u64 0), (.bool false), (.int .i64 0), (.bool false), (.int .u8 0), (.int .i64 0)] [])), none⟩, ⟨none, (.op (.store 7 (.t 4) (.t 12))), none⟩])
  .ret)))
def a138 : AF := ⟨13, [(.c 4 true 7)], .code b138, none⟩
theorem ok138 : AFOk Tryz.prog ext 138 a138 := .of Tryz.func138 (by kernel_rfl) (by kernel_rfl) (by kernel_rfl) (by kernel_rfl)
/-! 139: (*rowlock/seqlock.Lock).Unlock -/
def b139 : AC :=
  (.seq (.reg [⟨(some 4), (.op (.mv (.k (.int .i64 0)))), none⟩])
  (.seq (.reg [⟨(some 5), (.op (.mv (.t 0))), none⟩, ⟨(some 6), (.op (.mv (.t 1))), none⟩, ⟨(some 7), (.call (.f 185) [(.t 5), (.t 6), (.f 188)]), none⟩, ⟨(some 4), (.op (.mv (.t 7))), none⟩])
  .ret))
def a139 : AF := ⟨8, [(.t 4)], .code b139, none⟩
theorem ok139 : AFOk Tryz.prog ext 139 a139 := .of Tryz.func139 (by kernel_rfl) (by kernel_rfl) (by kernel_rfl) (by kernel_rfl)
/-! 140: (*rowlock/writes.stack[rowlock/writes.frame]).all -/
def b140 : AC :=
  (.seq (.reg [⟨(some 1), (.op (.box 164 (.t 0))), none⟩, ⟨(some 2), (.op (.mv (.k .nilFunc))), none⟩])
  (.seq (.reg [⟨(some 3), (.op (.mkfunc 189 [] [(.t 1)])), none⟩, ⟨(some 2), (.op (.mv (.t 3))), none⟩])
  .ret))
def a140 : AF := ⟨4, [(.t 2)], .code b140, none⟩
theorem ok140 : AFOk Tryz.prog ext 140 a140 := .of Tryz.func140 (by kernel_rfl) (by kernel_rfl) (by kernel_rfl) (by kernel_rfl)
/-! 141: (rowlock/writes.frame).get -/
def b141 : AC :=
  (.seq (.reg [⟨(some 4), (.op (.mv (.k (.int .u64 0)))), none⟩, ⟨(some 5), (.op (.mv (.k (.bool false)))), none⟩])
  (.seq (.seq (.reg [⟨(some 8), (.op (.mv (.t 0))), none⟩, ⟨(some 9), (.op (.lenS (.t 8))), none⟩, ⟨(some 10), (.op (.mv (.k (.int .i64 0)))), none⟩])
  (.block 0 (.loop (.seq (.reg [⟨(some 11), (.op (.bin .lss (.t 10) (.t 9))), none⟩])
   (.seq (.cond (.t 11) .skip
   (.exit 0))
   (.seq (.block 1 (.seq (.reg [⟨(some 12), (.op (.iaddrS 2 (.t 8) (.t 10))), none⟩, ⟨(some 13), (.op (.loadN 2 (.t 12))), none⟩, ⟨(some 7), (.op (.alloc 157 [(.int .i64 0), (.int .u64 0)])), none⟩, ⟨none, (.op (.store 2 (.t 7) (.t 13))), none⟩])
   (.seq (.reg [⟨(some 14), (.op (.faddr 0 (.t 7))), none⟩, ⟨(some 15), (.op (.load (.t 14))), none⟩, ⟨(some 16), (.op (.mv (.t 1))), none⟩, ⟨(some 17), (.op (.bin .eql (.t 15) (.t 16))), none⟩])
   (.cond (.t 17) (.seq (.reg [⟨(some 18), (.op (.faddr 1 (.t 7))), none⟩, ⟨(some 19), (.op (.load (.t 18))), none⟩, ⟨(some 4), (.op (.mv (.t 19))), none⟩, ⟨(some 5), (.op (.mv (.k (.bool true)))), none⟩])
   .ret)
   .skip))))
   (.reg [⟨(some 20), (.op (.bin .add (.t 10) (.k (.int .i64 1)))), none⟩, ⟨(some 10), (.op (.mv (.t 20))), none⟩])))))))
  (.seq (.reg [⟨(some 4), (.op (.mv (.k (.int .u64 0)))), none⟩, ⟨(some 5), (.op (.mv (.k (.bool false)))), none⟩])
  .ret)))
def a141 : AF := ⟨21, [(.t 4), (.t 5)], .code b141, none⟩
theorem ok141 : AFOk Tryz.prog ext 141 a141 := .of Tryz.func141 (by kernel_rfl) (by kernel_rfl) (by kernel_rfl) (by kernel_rfl)
/-! 142: (*rowlock/norec.attempt).done -/
def b142 : AC :=
  (.seq (.reg [⟨(some 4), (.op (.alloc 63 [(.bool false), (.int .u64 0), (.bool false), (.int .i64 0), (.bool false), (.int .u8 0), (.int .i64 0)])), none⟩])
  (.seq (.reg [⟨(some 5), (.op (.mv (.t 0))), none⟩, ⟨(some 6), (.op (.build [(.int .u8 0), (.int .i64 0), (.int .u64 0)] [])), none⟩, ⟨(some 7), (.op (.nilchk (.t 5))), none⟩, ⟨(some 8), (.op (.faddr 4 (.t 7))), none⟩, ⟨none, (.op (.store 3 (.t 8) (.t 6))), none⟩])
  (.seq (.reg [⟨(some 9), (.op (.mv (.t 1))), none⟩, ⟨(some 10), (.op (.build [(.bool false), (.int .u64 0), (.bool false), (.int .i64 0), (.bool false), (.int .u8 0), (.int .i64 0)] [(0, 1, (.k (.bool true))), (1, 1, (.t 9))])), none⟩, ⟨none, (.op (.store 7 (.t 4) (.t 10))), none⟩])
  .ret)))
def a142 : AF := ⟨11, [(.c 4 true 7)], .code b142, none⟩
theorem ok142 : AFOk Tryz.prog ext 142 a142 := .of Tryz.func142 (by kernel_rfl) (by kernel_rfl) (by kernel_rfl) (by kernel_rfl)
/-! 143: (*rowlock/reads.Set).Add -/
def b143 : AC :=
  (.seq (.reg [⟨(some 3), (.op (.box 155 (.t 1))), none⟩, ⟨(some 4), (.op (.mv (.k (.int .i64 0)))), none⟩])
  (.seq (.block 0 (.seq (.reg [⟨(some 8), (.op (.mv (.t 0))), none⟩, ⟨(some 9), (.op (.eq false .ptr (.t 8) (.k (.pointer none)))), none⟩, ⟨(some 7), (.op (.mv (.t 9))), none⟩])
  (.cond (.t 7) (.seq (.reg [⟨(some 4), (.op (.mv (.k (.int .i64 1)))), none⟩])
  .ret)
  (.seq (.reg [⟨(some 11), (.op (.faddr 0 (.t 3))), none⟩, ⟨(some 12), (.op (.load (.t 11))), none⟩, ⟨(some 13), (.op (.bin .lss (.t 12) (.k (.int .i64 0)))), none⟩, ⟨(some 14), (.op (.mv (.t 13))), none⟩, ⟨(some 15), (.op (.faddr 0 (.t 3))), (some (14, false))⟩, ⟨(some 16), (.op (.load (.t 15))), (some (14, false))⟩, ⟨(some 17), (.op (.bin .geq (.t 16) (.k (.int .i64 12)))), (some (14, false))⟩, ⟨(some 18), (.op (.pick (.t 14) (.k (.bool true)) (.t 17))), none⟩, ⟨(some 19), (.op (.mv (.t 18))), none⟩, ⟨(some 20), (.op (.faddr 2 (.t 3))), (some (19, false))⟩, ⟨(some 21), (.op (.load (.t 20))), (some (19, false))⟩, ⟨(some 22), (.op (.bin .gtr (.t 21) (.k (.int .u64 1099511627776)))), (some (19, false))⟩, ⟨(some 23), (.op (.pick (.t 19) (.k (.bool true)) (.t 22))), none⟩, ⟨(some 10), (.op (.mv (.t 23))), none⟩])
  (.cond (.t 10) (.seq (.reg [⟨(some 4), (.op (.mv (.k (.int .i64 2)))), none⟩])
  .ret)
  (.seq (.reg [⟨(some 25), (.op (.faddr 1 (.t 3))), none⟩, ⟨(some 26), (.op (.load (.t 25))), none⟩, ⟨(some 27), (.call (.f 96) [(.t 26)]), none⟩, ⟨(some 28), (.op (.un .not (.t 27))), none⟩, ⟨(some 24), (.op (.mv (.t 28))), none⟩])
  (.cond (.t 24) (.seq (.reg [⟨(some 4), (.op (.mv (.k (.int .i64 3)))), none⟩])
  .ret)
  .skip)))))))
  (.seq (.seq (.dreg (.quiet ⟨(some 30), (.op (.mv (.t 0))), none⟩ (.quiet ⟨(some 31), (.op (.nilchk (.t 30))), none⟩ (.quiet ⟨(some 32), (.op (.faddr 1 (.t 31))), none⟩ (.quiet ⟨(some 33), (.op (.load (.t 32))), none⟩ (.quiet ⟨(some 34), (.op (.faddr 0 (.t 3))), none⟩ (.quiet ⟨(some 35), (.op (.load (.t 34))), none⟩ (.quiet ⟨(some 36), (.op (.lookup false (.agg #[(.int .i64 0), (.int .u64 0), (.int .u64 0)]) true (.t 33) (.t 35))), none⟩ (.quiet ⟨(some 29), (.op (.mv (.t 36))), none⟩ (.quiet ⟨(some 37), (.op (.extract (.t 29) 0)), none⟩ (.quiet ⟨(some 38), (.op (.extract (.t 29) 1)), none⟩ (.loud ⟨(some 5), (.op (.alloc 155 [(.int .i64 0), (.int .u64 0), (.int .u64 0)])), none⟩ [⟨(some 36), (.op (.lookup false (.agg #[(.int .i64 0), (.int .u64 0), (.int .u64 0)]) true (.t 33) (.t 35))), none⟩, ⟨(some 35), (.op (.load (.t 34))), none⟩, ⟨(some 33), (.op (.load (.t 32))), none⟩] (.loud ⟨none, (.op (.store 3 (.t 5) (.t 37))), none⟩ [] (.loud ⟨(some 6), (.op (.mv (.t 38))), none⟩ [] .nil))))))))))))))
  (.seq (.reg [⟨(some 39), (.op (.mv (.t 6))), none⟩])
  (.cond (.t 39) (.seq (.reg [⟨(some 4), (.op (.mv (.k (.int .i64 0)))), none⟩])
  .ret)
  .skip)))
  (.seq (.seq (.reg [⟨(some 40), (.op (.mv (.t 0))), none⟩, ⟨(some 41), (.op (.nilchk (.t 40))), none⟩, ⟨(some 42), (.op (.faddr 0 (.t 41))), none⟩, ⟨(some 43), (.op (.load (.t 42))), none⟩, ⟨(some 44), (.op (.lenS (.t 43))), none⟩, ⟨(some 45), (.op (.bin .geq (.t 44) (.k (.int .i64 8)))), none⟩])
  (.cond (.t 45) (.seq (.reg [⟨(some 4), (.op (.mv (.k (.int .i64 4)))), none⟩])
  .ret)
  .skip))
  (.seq (.dreg (.quiet ⟨(some 46), (.op (.mv (.t 0))), none⟩ (.quiet ⟨(some 47), (.op (.mv (.t 0))), none⟩ (.quiet ⟨(some 48), (.op (.nilchk (.t 47))), none⟩ (.quiet ⟨(some 49), (.op (.faddr 0 (.t 48))), none⟩ (.quiet ⟨(some 50), (.op (.load (.t 49))), none⟩ (.quiet ⟨(some 51), (.op (.faddr 0 (.t 3))), none⟩ (.quiet ⟨(some 52), (.op (.load (.t 51))), none⟩ (.loud ⟨(some 53), (.op (.bslice 3 [(.int .i64 0)] 1 [(0, 1, (.t 52))])), none⟩ [⟨(some 50), (.op (.load (.t 49))), none⟩] (.loud ⟨(some 54), (.op (.append 3 1 8 (.t 50) (.t 53))), none⟩ [] (.quiet ⟨(some 55), (.op (.nilchk (.t 46))), none⟩ (.quiet ⟨(some 56), (.op (.faddr 0 (.t 55))), none⟩ (.loud ⟨none, (.op (.store 1 (.t 56) (.t 54))), none⟩ [] .nil)))))))))))))
  (.seq (.dreg (.quiet ⟨(some 57), (.op (.mv (.t 0))), none⟩ (.quiet ⟨(some 58), (.op (.nilchk (.t 57))), none⟩ (.quiet ⟨(some 59), (.op (.faddr 1 (.t 58))), none⟩ (.quiet ⟨(some 60), (.op (.load (.t 59))), none⟩ (.quiet ⟨(some 61), (.op (.faddr 0 (.t 3))), none⟩ (.quiet ⟨(some 62), (.op (.load (.t 61))), none⟩ (.quiet ⟨(some 63), (.op (.loadN 3 (.t 3))), none⟩ (.loud ⟨none, (.op (.mapupd false (.t 60) (.t 62) (.t 63))), none⟩ [] .nil)))))))))
  (.seq (.reg [⟨(some 4), (.op (.mv (.k (.int .i64 0)))), none⟩])
  .ret)))))))
def a143 : AF := ⟨64, [(.t 4)], .code b143, none⟩
theorem ok143 : AFOk Tryz.prog ext 143 a143 := .of Tryz.func143 (by kernel_rfl) (by kernel_rfl) (by kernel_rfl) (by kernel_rfl)
/-! 144: (*rowlock/writes.Log).Push -/
def b144 : AC :=
  (.seq (.reg [⟨(some 2), (.op (.mv (.k (.int .i64 0)))), none⟩])
  (.seq (.block 0 (.seq (.reg [⟨(some 4), (.op (.mv (.t 0))), none⟩, ⟨(some 5), (.op (.eq false .ptr (.t 4) (.k (.pointer none)))), none⟩, ⟨(some 3), (.op (.mv (.t 5))), none⟩])
  (.cond (.t 3) (.seq (.reg [⟨(some 2), (.op (.mv (.k (.int .i64 1)))), none⟩])
  .ret)
  (.seq (.reg [⟨(some 7), (.op (.mv (.t 0))), none⟩, ⟨(some 8), (.op (.nilchk (.t 7))), none⟩, ⟨(some 9), (.op (.faddr 1 (.t 8))), none⟩, ⟨(some 10), (.op (.load (.t 9))), none⟩, ⟨(some 11), (.op (.bin .geq (.t 10) (.k (.int .i64 4)))), none⟩, ⟨(some 6), (.op (.mv (.t 11))), none⟩])
  (.cond (.t 6) (.seq (.reg [⟨(some 2), (.op (.mv (.k (.int .i64 4)))), none⟩])
  .ret)
  .skip)))))
  (.seq (.reg [⟨(some 12), (.op (.mv (.t 0))), none⟩, ⟨(some 13), (.op (.mv (.t 0))), none⟩, ⟨(some 14), (.op (.nilchk (.t 13))), none⟩, ⟨(some 15), (.op (.faddr 0 (.t 14))), none⟩, ⟨(some 16), (.op (.load (.t 15))), none⟩, ⟨(some 17), (.call (.f 131) [(.t 16), (.k (.slice none 0 0))]), none⟩, ⟨(some 18), (.op (.nilchk (.t 12))), none⟩, ⟨(some 19), (.op (.faddr 0 (.t 18))), none⟩, ⟨none, (.op (.store 1 (.t 19) (.t 17))), none⟩])
  (.seq (.reg [⟨(some 20), (.op (.mv (.t 0))), none⟩, ⟨(some 21), (.op (.nilchk (.t 20))), none⟩, ⟨(some 22), (.op (.faddr 1 (.t 21))), none⟩, ⟨(some 23), (.op (.load (.t 22))), none⟩, ⟨(some 24), (.op (.bin .add (.t 23) (.k (.int .i64 1)))), none⟩, ⟨(some 25), (.op (.nilchk (.t 20))), none⟩, ⟨(some 26), (.op (.faddr 1 (.t 25))), none⟩, ⟨none, (.op (.store 1 (.t 26) (.t 24))), none⟩])
  (.seq (.reg [⟨(some 2), (.op (.mv (.k (.int .i64 0)))), none⟩])
  .ret)))))
def a144 : AF := ⟨27, [(.t 2)], .code b144, none⟩
theorem ok144 : AFOk Tryz.prog ext 144 a144 := .of Tryz.func144 (by kernel_rfl) (by kernel_rfl) (by kernel_rfl) (by kernel_rfl)
/-! 145: (*rowlock/writes.Log).Drop -/
def b145 : AC :=
  (.seq (.reg [⟨(some 2), (.op (.mv (.k (.int .i64 0)))), none⟩])
  (.seq (.reg [⟨(some 6), (.op (.mv (.t 0))), none⟩, ⟨(some 7), (.call (.f 190) [(.t 6)]), none⟩, ⟨(some 5), (.op (.mv (.t 7))), none⟩, ⟨(some 8), (.op (.extract (.t 5) 0)), none⟩, ⟨(some 9), (.op (.extract (.t 5) 1)), none⟩, ⟨(some 3), (.op (.mv (.t 8))), none⟩, ⟨(some 4), (.op (.mv (.t 9))), none⟩])
  (.seq (.reg [⟨(some 10), (.op (.mv (.t 4))), none⟩, ⟨(some 2), (.op (.mv (.t 10))), none⟩])
  .ret)))
def a145 : AF := ⟨11, [(.t 2)], .code b145, none⟩
theorem ok145 : AFOk Tryz.prog ext 145 a145 := .of Tryz.func145 (by kernel_rfl) (by kernel_rfl) (by kernel_rfl) (by kernel_rfl)
/-! 146: (*rowlock/writes.Log).Merge -/
def b146 : AC :=
  (.seq (.reg [⟨(some 2), (.op (.mv (.k (.int .i64 0)))), none⟩])
  (.seq (.reg [⟨(some 9), (.op (.mv (.t 0))), none⟩, ⟨(some 10), (.call (.f 190) [(.t 9)]), none⟩, ⟨(some 8), (.op (.mv (.t 10))), none⟩, ⟨(some 11), (.op (.extract (.t 8) 0)), none⟩, ⟨(some 12), (.op (.extract (.t 8) 1)), none⟩, ⟨(some 3), (.op (.mv (.t 11))), none⟩, ⟨(some 4), (.op (.mv (.t 12))), none⟩])
  (.seq (.seq (.reg [⟨(some 13), (.op (.mv (.t 4))), none⟩, ⟨(some 14), (.op (.bin .neq (.t 13) (.k (.int .i64 0)))), none⟩])
  (.cond (.t 14) (.seq (.reg [⟨(some 15), (.op (.mv (.t 4))), none⟩, ⟨(some 2), (.op (.mv (.t 15))), none⟩])
  .ret)
  .skip))
  (.seq (.reg [⟨(some 16), (.op (.mv (.t 0))), none⟩, ⟨(some 17), (.op (.nilchk (.t 16))), none⟩, ⟨(some 18), (.op (.faddr 0 (.t 17))), none⟩, ⟨(some 19), (.op (.load (.t 18))), none⟩, ⟨(some 20), (.op (.nilchk (.t 19))), none⟩, ⟨(some 21), (.op (.faddr 0 (.t 20))), none⟩, ⟨(some 22), (.op (.load (.t 21))), none⟩, ⟨(some 5), (.op (.mv (.t 22))), none⟩])
  (.seq (.seq (.reg [⟨(some 23), (.op (.mv (.t 3))), none⟩, ⟨(some 24), (.op (.lenS (.t 23))), none⟩, ⟨(some 25), (.op (.mv (.k (.int .i64 0)))), none⟩])
  (.block 0 (.loop (.seq (.reg [⟨(some 26), (.op (.bin .lss (.t 25) (.t 24))), none⟩])
   (.seq (.cond (.t 26) .skip
   (.exit 0))
   (.seq (.block 1 (.seq (.reg [⟨(some 27), (.op (.iaddrS 2 (.t 23) (.t 25))), none⟩, ⟨(some 28), (.op (.loadN 2 (.t 27))), none⟩, ⟨(some 7), (.op (.alloc 157 [(.int .i64 0), (.int .u64 0)])), none⟩, ⟨none, (.op (.store 2 (.t 7) (.t 28))), none⟩])
   (.reg [⟨(some 29), (.op (.mv (.t 5))), none⟩, ⟨(some 30), (.op (.loadN 2 (.t 7))), none⟩, ⟨(some 31), (.call (.f 191) [(.t 29), (.t 30)]), none⟩, ⟨(some 5), (.op (.mv (.t 31))), none⟩])))
   (.reg [⟨(some 32), (.op (.bin .add (.t 25) (.k (.int .i64 1)))), none⟩, ⟨(some 25), (.op (.mv (.t 32))), none⟩])))))))
  (.seq (.reg [⟨(some 33), (.op (.mv (.t 0))), none⟩, ⟨(some 34), (.op (.mv (.t 0))), none⟩, ⟨(some 35), (.op (.nilchk (.t 34))), none⟩, ⟨(some 36), (.op (.faddr 0 (.t 35))), none⟩, ⟨(some 37), (.op (.load (.t 36))), none⟩, ⟨(some 38), (.op (.nilchk (.t 37))), none⟩, ⟨(some 39), (.op (.faddr 1 (.t 38))), none⟩, ⟨(some 40), (.op (.load (.t 39))), none⟩, ⟨(some 41), (.op (.mv (.t 5))), none⟩, ⟨(some 42), (.call (.f 131) [(.t 40), (.t 41)]), none⟩, ⟨(some 43), (.op (.nilchk (.t 33))), none⟩, ⟨(some 44), (.op (.faddr 0 (.t 43))), none⟩, ⟨none, (.op (.store 1 (.t 44) (.t 42))), none⟩])
  (.seq (.reg [⟨(some 2), (.op (.mv (.k (.int .i64 0)))), none⟩])
  .ret)))))))
def a146 : AF := ⟨45, [(.t 2)], .code b146, none⟩
theorem ok146 : AFOk Tryz.prog ext 146 a146 := .of Tryz.func146 (by kernel_rfl) (by kernel_rfl) (by kernel_rfl) (by kernel_rfl)
/-! 147: (*rowlock/writes.Log).Put -/
def b147 : AC :=
  (.seq (.reg [⟨(some 6), (.op (.mv (.k (.int .i64 0)))), none⟩])
  (.seq (.block 0 (.seq (.reg [⟨(some 10), (.op (.mv (.t 0))), none⟩, ⟨(some 11), (.op (.eq false .ptr (.t 10) (.k (.pointer none)))), none⟩, ⟨(some 9), (.op (.mv (.t 11))), none⟩])
  (.cond (.t 9) (.seq (.reg [⟨(some 6), (.op (.mv (.k (.int .i64 1)))), none⟩])
  .ret)
  (.seq (.reg [⟨(some 13), (.op (.mv (.t 1))), none⟩, ⟨(some 14), (.op (.bin .lss (.t 13) (.k (.int .i64 0)))), none⟩, ⟨(some 15), (.op (.mv (.t 14))), none⟩, ⟨(some 16), (.op (.mv (.t 1))), (some (15, false))⟩, ⟨(some 17), (.op (.bin .geq (.t 16) (.k (.int .i64 12)))), (some (15, false))⟩, ⟨(some 18), (.op (.pick (.t 15) (.k (.bool true)) (.t 17))), none⟩, ⟨(some 12), (.op (.mv (.t 18))), none⟩])
  (.cond (.t 12) (.seq (.reg [⟨(some 6), (.op (.mv (.k (.int .i64 2)))), none⟩])
  .ret)
  (.seq (.reg [⟨(some 20), (.op (.mv (.t 2))), none⟩, ⟨(some 21), (.call (.f 96) [(.t 20)]), none⟩, ⟨(some 22), (.op (.un .not (.t 21))), none⟩, ⟨(some 19), (.op (.mv (.t 22))), none⟩])
  (.cond (.t 19) (.seq (.reg [⟨(some 6), (.op (.mv (.k (.int .i64 3)))), none⟩])
  .ret)
  .skip)))))))
  (.seq (.seq (.reg [⟨(some 24), (.op (.mv (.t 0))), none⟩, ⟨(some 25), (.op (.nilchk (.t 24))), none⟩, ⟨(some 26), (.op (.faddr 0 (.t 25))), none⟩, ⟨(some 27), (.op (.load (.t 26))), none⟩, ⟨(some 28), (.op (.nilchk (.t 27))), none⟩, ⟨(some 29), (.op (.faddr 0 (.t 28))), none⟩, ⟨(some 30), (.op (.load (.t 29))), none⟩, ⟨(some 31), (.op (.mv (.t 1))), none⟩, ⟨(some 32), (.call (.f 141) [(.t 30), (.t 31)]), none⟩, ⟨(some 23), (.op (.mv (.t 32))), none⟩, ⟨(some 33), (.op (.extract (.t 23) 0)), none⟩, ⟨(some 34), (.op (.extract (.t 23) 1)), none⟩, ⟨(some 7), (.op (.mv (.t 33))), none⟩, ⟨(some 8), (.op (.mv (.t 34))), none⟩])
  (.seq (.reg [⟨(some 35), (.op (.mv (.t 8))), none⟩, ⟨(some 36), (.op (.un .not (.t 35))), none⟩, ⟨(some 37), (.op (.mv (.t 36))), none⟩, ⟨(some 38), (.op (.mv (.t 0))), (some (37, true))⟩, ⟨(some 39), (.call (.f 192) [(.t 38)]), (some (37, true))⟩, ⟨(some 40), (.op (.bin .geq (.t 39) (.k (.int .i64 16)))), (some (37, true))⟩, ⟨(some 41), (.op (.pick (.t 37) (.t 40) (.k (.bool false)))), none⟩])
  (.cond (.t 41) (.seq (.reg [⟨(some 6), (.op (.mv (.k (.int .i64 4)))), none⟩])
  .ret)
  .skip)))
  (.seq (.dreg (.quiet ⟨(some 42), (.op (.mv (.t 0))), none⟩ (.quiet ⟨(some 43), (.op (.mv (.t 0))), none⟩ (.quiet ⟨(some 44), (.op (.nilchk (.t 43))), none⟩ (.quiet ⟨(some 45), (.op (.faddr 0 (.t 44))), none⟩ (.quiet ⟨(some 46), (.op (.load (.t 45))), none⟩ (.quiet ⟨(some 47), (.op (.nilchk (.t 46))), none⟩ (.quiet ⟨(some 48), (.op (.faddr 1 (.t 47))), none⟩ (.quiet ⟨(some 49), (.op (.load (.t 48))), none⟩ (.quiet ⟨(some 50), (.op (.mv (.t 0))), none⟩ (.quiet ⟨(some 51), (.op (.nilchk (.t 50))), none⟩ (.quiet ⟨(some 52), (.op (.faddr 0 (.t 51))), none⟩ (.quiet ⟨(some 53), (.op (.load (.t 52))), none⟩ (.quiet ⟨(some 54), (.op (.nilchk (.t 53))), none⟩ (.quiet ⟨(some 55), (.op (.faddr 0 (.t 54))), none⟩ (.quiet ⟨(some 56), (.op (.load (.t 55))), none⟩ (.quiet ⟨(some 57), (.op (.mv (.t 1))), none⟩ (.quiet ⟨(some 58), (.op (.mv (.t 2))), none⟩ (.quiet ⟨(some 59), (.op (.build [(.int .i64 0), (.int .u64 0)] [(0, 1, (.t 57)), (1, 1, (.t 58))])), none⟩ (.loud ⟨(some 60), (.call (.f 191) [(.t 56), (.t 59)]), none⟩ [⟨(some 49), (.op (.load (.t 48))), none⟩, ⟨(some 46), (.op (.load (.t 45))), none⟩] (.loud ⟨(some 61), (.call (.f 131) [(.t 49), (.t 60)]), none⟩ [] (.quiet ⟨(some 62), (.op (.nilchk (.t 42))), none⟩ (.quiet ⟨(some 63), (.op (.faddr 0 (.t 62))), none⟩ (.loud ⟨none, (.op (.store 1 (.t 63) (.t 61))), none⟩ [] .nil))))))))))))))))))))))))
  (.seq (.reg [⟨(some 6), (.op (.mv (.k (.int .i64 0)))), none⟩])
  .ret)))))
def a147 : AF := ⟨64, [(.t 6)], .code b147, none⟩
theorem ok147 : AFOk Tryz.prog ext 147 a147 := .of Tryz.func147 (by kernel_rfl) (by kernel_rfl) (by kernel_rfl) (by kernel_rfl)
/-! 148: (*rowlock/reads.Set).Broken -/
def b148 : AC :=
  (.seq (.reg [⟨(some 4), (.op (.mv (.k (.int .i64 0)))), none⟩, ⟨(some 5), (.op (.mv (.k (.bool false)))), none⟩])
  (.seq (.seq (.reg [⟨(some 8), (.op (.mv (.t 0))), none⟩, ⟨(some 9), (.call (.f 92) [(.t 8)]), none⟩, ⟨(some 10), (.op (.lenS (.t 9))), none⟩, ⟨(some 11), (.op (.mv (.k (.int .i64 0)))), none⟩])
  (.block 0 (.loop (.seq (.reg [⟨(some 12), (.op (.bin .lss (.t 11) (.t 10))), none⟩])
   (.seq (.cond (.t 12) .skip
   (.exit 0))
   (.seq (.block 1 (.seq (.reg [⟨(some 13), (.op (.iaddrS 3 (.t 9) (.t 11))), none⟩, ⟨(some 14), (.op (.loadN 3 (.t 13))), none⟩, ⟨(some 7), (.op (.alloc 155 [(.int .i64 0), (.int .u64 0), (.int .u64 0)])), none⟩, ⟨none, (.op (.store 3 (.t 7) (.t 14))), none⟩])
   (.seq (.dreg (.quiet ⟨(some 15), (.op (.faddr 0 (.t 7))), none⟩ (.quiet ⟨(some 16), (.op (.load (.t 15))), none⟩ (.quiet ⟨(some 17), (.op (.mv (.t 1))), none⟩ (.quiet ⟨(some 18), (.op (.lenS (.t 17))), none⟩ (.quiet ⟨(some 19), (.op (.bin .geq (.t 16) (.t 18))), none⟩ (.quiet ⟨(some 20), (.op (.mv (.t 19))), none⟩ (.quiet ⟨(some 21), (.op (.mv (.t 1))), (some (20, false))⟩ (.quiet ⟨(some 22), (.op (.faddr 0 (.t 7))), (some (20, false))⟩ (.quiet ⟨(some 23), (.op (.load (.t 22))), (some (20, false))⟩ (.quiet ⟨(some 24), (.op (.iaddrS 1 (.t 21) (.t 23))), (some (20, false))⟩ (.quiet ⟨(some 25), (.op (.load (.t 24))), (some (20, false))⟩ (.quiet ⟨(some 26), (.op (.faddr 1 (.t 7))), (some (20, false))⟩ (.quiet ⟨(some 27), (.op (.load (.t 26))), (some (20, false))⟩ (.loud ⟨(some 28), (.call (.f 133) [(.t 25), (.t 27)]), (some (20, false))⟩ [] (.quiet ⟨(some 29), (.op (.un .not (.t 28))), (some (20, false))⟩ (.quiet ⟨(some 30), (.op (.pick (.t 20) (.k (.bool true)) (.t 29))), none⟩ .nil)))))))))))))))))
   (.cond (.t 30) (.seq (.reg [⟨(some 31), (.op (.faddr 0 (.t 7))), none⟩, ⟨(some 32), (.op (.load (.t 31))), none⟩, ⟨(some 4), (.op (.mv (.t 32))), none⟩, ⟨(some 5), (.op (.mv (.k (.bool true)))), none⟩])
   .ret)
   .skip))))
   (.reg [⟨(some 33), (.op (.bin .add (.t 11) (.k (.int .i64 1)))), none⟩, ⟨(some 11), (.op (.mv (.t 33))), none⟩])))))))
  (.seq (.reg [⟨(some 4), (.op (.mv (.k (.int .i64 0)))), none⟩, ⟨(some 5), (.op (.mv (.k (.bool false)))), none⟩])
  .ret)))
def a148 : AF := ⟨34, [(.t 4), (.t 5)], .code b148, none⟩
theorem ok148 : AFOk Tryz.prog ext 148 a148 := .of Tryz.func148 (by kernel_rfl) (by kernel_rfl) (by kernel_rfl) (by kernel_rfl)
/-! 156: slices.insertionSortOrdered[int] -/
def b156 : AC :=
  (.seq (.reg [⟨(some 8), (.op (.mv (.t 1))), none⟩, ⟨(some 9), (.op (.bin .add (.t 8) (.k (.int .i64 1)))), none⟩, ⟨(some 6), (.op (.mv (.t 9))), none⟩])
  (.block 0 (.loop (.seq (.seq (.reg [⟨(some 10), (.op (.mv (.t 6))), none⟩, ⟨(some 11), (.op (.mv (.t 2))), none⟩, ⟨(some 12), (.op (.bin .lss (.t 10) (.t 11))), none⟩])
   (.cond (.t 12) .skip
   (.exit 0)))
   (.seq (.block 1 (.seq (.reg [⟨(some 15), (.op (.mv (.t 6))), none⟩, ⟨(some 7), (.op (.mv (.t 15))), none⟩])
   (.block 2 (.loop (.seq (.seq (.dreg (.quiet ⟨(some 16), (.op (.mv (.t 7))), none⟩ (.quiet ⟨(some 17), (.op (.mv (.t 1))), none⟩ (.quiet ⟨(some 18), (.op (.bin .gtr (.t 16) (.t 17))), none⟩ (.quiet ⟨(some 19), (.op (.mv (.t 18))), none⟩ (.quiet ⟨(some 20), (.op (.mv (.t 0))), (some (19, true))⟩ (.quiet ⟨(some 21), (.op (.mv (.t 7))), (some (19, true))⟩ (.quiet ⟨(some 22), (.op (.iaddrS 1 (.t 20) (.t 21))), (some (19, true))⟩ (.quiet ⟨(some 23), (.op (.load (.t 22))), (some (19, true))⟩ (.quiet ⟨(some 24), (.op (.mv (.t 0))), (some (19, true))⟩ (.quiet ⟨(some 25), (.op (.mv (.t 7))), (some (19, true))⟩ (.quiet ⟨(some 26), (.op (.bin .sub (.t 25) (.k (.int .i64 1)))), (some (19, true))⟩ (.quiet ⟨(some 27), (.op (.iaddrS 1 (.t 24) (.t 26))), (some (19, true))⟩ (.quiet ⟨(some 28), (.op (.load (.t 27))), (some (19, true))⟩ (.loud ⟨(some 29), (.call (.f 162) [(.t 23), (.t 28)]), (some (19, true))⟩ [] (.quiet ⟨(some 30), (.op (.pick (.t 19) (.t 29) (.k (.bool false)))), none⟩ .nil))))))))))))))))
    (.cond (.t 30) .skip
    (.exit 2)))
    (.seq (.block 3 (.dreg (.quiet ⟨(some 33), (.op (.mv (.t 0))), none⟩ (.quiet ⟨(some 34), (.op (.mv (.t 7))), none⟩ (.quiet ⟨(some 35), (.op (.mv (.t 0))), none⟩ (.quiet ⟨(some 36), (.op (.mv (.t 7))), none⟩ (.quiet ⟨(some 37), (.op (.bin .sub (.t 36) (.k (.int .i64 1)))), none⟩ (.quiet ⟨(some 38), (.op (.mv (.t 0))), none⟩ (.quiet ⟨(some 39), (.op (.mv (.t 7))), none⟩ (.quiet ⟨(some 40), (.op (.bin .sub (.t 39) (.k (.int .i64 1)))), none⟩ (.quiet ⟨(some 41), (.op (.iaddrS 1 (.t 38) (.t 40))), none⟩ (.quiet ⟨(some 42), (.op (.load (.t 41))), none⟩ (.quiet ⟨(some 43), (.op (.mv (.t 0))), none⟩ (.quiet ⟨(some 44), (.op (.mv (.t 7))), none⟩ (.quiet ⟨(some 45), (.op (.iaddrS 1 (.t 43) (.t 44))), none⟩ (.quiet ⟨(some 46), (.op (.load (.t 45))), none⟩ (.quiet ⟨(some 47), (.op (.iaddrS 1 (.t 33) (.t 34))), none⟩ (.loud ⟨none, (.op (.store 1 (.t 47) (.t 42))), none⟩ [] (.quiet ⟨(some 48), (.op (.iaddrS 1 (.t 35) (.t 37))), none⟩ (.loud ⟨none, (.op (.store 1 (.t 48) (.t 46))), none⟩ [] .nil))))))))))))))))))))
    (.reg [⟨(some 31), (.op (.mv (.t 7))), none⟩, ⟨(some 32), (.op (.bin .sub (.t 31) (.k (.int .i64 1)))), none⟩, ⟨(some 7), (.op (.mv (.t 32))), none⟩])))))))
   (.reg [⟨(some 13), (.op (.mv (.t 6))), none⟩, ⟨(some 14), (.op (.bin .add (.t 13) (.k (.int .i64 1)))), none⟩, ⟨(some 6), (.op (.mv (.t 14))), none⟩]))))))
def a156 : AF := ⟨49, [], .code b156, none⟩
theorem ok156 : AFOk Tryz.prog ext 156 a156 := .of Tryz.func156 (by kernel_rfl) (by kernel_rfl) (by kernel_rfl) (by kernel_rfl)
/-! 157: slices.heapSortOrdered[int] -/
def b157 : AC :=
  (.seq (.reg [⟨(some 11), (.op (.mv (.t 1))), none⟩, ⟨(some 6), (.op (.mv (.t 11))), none⟩])
  (.seq (.reg [⟨(some 7), (.op (.mv (.k (.int .i64 0)))), none⟩])
  (.seq (.reg [⟨(some 12), (.op (.mv (.t 2))), none⟩, ⟨(some 13), (.op (.mv (.t 1))), none⟩, ⟨(some 14), (.op (.bin .sub (.t 12) (.t 13))), none⟩, ⟨(some 8), (.op (.mv (.t 14))), none⟩])
  (.seq (.seq (.reg [⟨(some 15), (.op (.mv (.t 8))), none⟩, ⟨(some 16), (.op (.bin .sub (.t 15) (.k (.int .i64 1)))), none⟩, ⟨(some 17), (.op (.bin .quo (.t 16) (.k (.int .i64 2)))), none⟩, ⟨(some 9), (.op (.mv (.t 17))), none⟩])
  (.block 0 (.loop (.seq (.seq (.reg [⟨(some 18), (.op (.mv (.t 9))), none⟩, ⟨(some 19), (.op (.bin .geq (.t 18) (.k (.int .i64 0)))), none⟩])
   (.cond (.t 19) .skip
   (.exit 0)))
   (.seq (.block 1 (.reg [⟨(some 22), (.op (.mv (.t 0))), none⟩, ⟨(some 23), (.op (.mv (.t 9))), none⟩, ⟨(some 24), (.op (.mv (.t 8))), none⟩, ⟨(some 25), (.op (.mv (.t 6))), none⟩, ⟨(some 26), (.call (.f 196) [(.t 22), (.t 23), (.t 24), (.t 25)]), none⟩]))
   (.reg [⟨(some 20), (.op (.mv (.t 9))), none⟩, ⟨(some 21), (.op (.bin .sub (.t 20) (.k (.int .i64 1)))), none⟩, ⟨(some 9), (.op (.mv (.t 21))), none⟩]))))))
  (.seq (.reg [⟨(some 27), (.op (.mv (.t 8))), none⟩, ⟨(some 28), (.op (.bin .sub (.t 27) (.k (.int .i64 1)))), none⟩, ⟨(some 10), (.op (.mv (.t 28))), none⟩])
  (.block 2 (.loop (.seq (.seq (.reg [⟨(some 29), (.op (.mv (.t 10))), none⟩, ⟨(some 30), (.op (.bin .geq (.t 29) (.k (.int .i64 0)))), none⟩])
   (.cond (.t 30) .skip
   (.exit 2)))
   (.seq (.block 3 (.seq (.dreg (.quiet ⟨(some 33), (.op (.mv (.t 0))), none⟩ (.quiet ⟨(some 34), (.op (.mv (.t 6))), none⟩ (.quiet ⟨(some 35), (.op (.mv (.t 0))), none⟩ (.quiet ⟨(some 36), (.op (.mv (.t 6))), none⟩ (.quiet ⟨(some 37), (.op (.mv (.t 10))), none⟩ (.quiet ⟨(some 38), (.op (.bin .add (.t 36) (.t 37))), none⟩ (.quiet ⟨(some 39), (.op (.mv (.t 0))), none⟩ (.quiet ⟨(some 40), (.op (.mv (.t 6))), none⟩ (.quiet ⟨(some 41), (.op (.mv (.t 10))), none⟩ (.quiet ⟨(some 42), (.op (.bin .add (.t 40) (.t 41))), none⟩ (.quiet ⟨(some 43), (.op (.iaddrS 1 (.t 39) (.t 42))), none⟩ (.quiet ⟨(some 44), (.op (.load (.t 43))), none⟩ (.quiet ⟨(some 45), (.op (.mv (.t 0))), none⟩ (.quiet ⟨(some 46), (.op (.mv (.t 6))), none⟩ (.quiet ⟨(some 47), (.op (.iaddrS 1 (.t 45) (.t 46))), none⟩ (.quiet ⟨(some 48), (.op (.load (.t 47))), none⟩ (.quiet ⟨(some 49), (.op (.iaddrS 1 (.t 33) (.t 34))), none⟩ (.loud ⟨none, (.op (.store 1 (.t 49) (.t 44))), none⟩ [] (.quiet ⟨(some 50), (.op (.iaddrS 1 (.t 35) (.t 38))), none⟩ (.loud ⟨none, (.op (.store 1 (.t 50) (.t 48))), none⟩ [] .nil)))))))))))))))))))))
   (.reg [⟨(some 51), (.op (.mv (.t 0))), none⟩, ⟨(some 52), (.op (.mv (.t 7))), none⟩, ⟨(some 53), (.op (.mv (.t 10))), none⟩, ⟨(some 54), (.op (.mv (.t 6))), none⟩, ⟨(some 55), (.call (.f 196) [(.t 51), (.t 52), (.t 53), (.t 54)]), none⟩])))
   (.reg [⟨(some 31), (.op (.mv (.t 10))), none⟩, ⟨(some 32), (.op (.bin .sub (.t 31) (.k (.int .i64 1)))), none⟩, ⟨(some 10), (.op (.mv (.t 32))), none⟩]))))))))))
def a157 : AF := ⟨56, [], .code b157, none⟩
theorem ok157 : AFOk Tryz.prog ext 157 a157 := .of Tryz.func157 (by kernel_rfl) (by kernel_rfl) (by kernel_rfl) (by kernel_rfl)
/-! 158: slices.breakPatternsOrdered[int] -/
def b158 : AC :=
  (.seq (.reg [⟨(some 11), (.op (.mv (.t 2))), none⟩, ⟨(some 12), (.op (.mv (.t 1))), none⟩, ⟨(some 13), (.op (.bin .sub (.t 11) (.t 12))), none⟩, ⟨(some 6), (.op (.mv (.t 13))), none⟩])
  (.seq (.reg [⟨(some 14), (.op (.mv (.t 6))), none⟩, ⟨(some 15), (.op (.bin .geq (.t 14) (.k (.int .i64 8)))), none⟩])
  (.cond (.t 15) (.seq (.reg [⟨(some 16), (.op (.mv (.t 6))), none⟩, ⟨(some 17), (.op (.conv (.int .u64) (.t 16))), none⟩, ⟨(some 7), (.op (.alloc 231 [(.int .u64 0)])), none⟩, ⟨none, (.op (.store 1 (.t 7) (.t 17))), none⟩])
  (.seq (.reg [⟨(some 18), (.op (.mv (.t 6))), none⟩, ⟨(some 19), (.call (.f 197) [(.t 18)]), none⟩, ⟨(some 8), (.op (.mv (.t 19))), none⟩])
  (.seq (.reg [⟨(some 20), (.op (.mv (.t 1))), none⟩, ⟨(some 21), (.op (.mv (.t 6))), none⟩, ⟨(some 22), (.op (.bin .quo (.t 21) (.k (.int .i64 4)))), none⟩, ⟨(some 23), (.op (.bin .mul (.t 22) (.k (.int .i64 2)))), none⟩, ⟨(some 24), (.op (.bin .add (.t 20) (.t 23))), none⟩, ⟨(some 25), (.op (.bin .sub (.t 24) (.k (.int .i64 1)))), none⟩, ⟨(some 9), (.op (.mv (.t 25))), none⟩])
  (.block 0 (.loop (.seq (.seq (.reg [⟨(some 26), (.op (.mv (.t 9))), none⟩, ⟨(some 27), (.op (.mv (.t 1))), none⟩, ⟨(some 28), (.op (.mv (.t 6))), none⟩, ⟨(some 29), (.op (.bin .quo (.t 28) (.k (.int .i64 4)))), none⟩, ⟨(some 30), (.op (.bin .mul (.t 29) (.k (.int .i64 2)))), none⟩, ⟨(some 31), (.op (.bin .add (.t 27) (.t 30))), none⟩, ⟨(some 32), (.op (.bin .add (.t 31) (.k (.int .i64 1)))), none⟩, ⟨(some 33), (.op (.bin .leq (.t 26) (.t 32))), none⟩])
   (.cond (.t 33) .skip
   (.exit 0)))
   (.seq (.block 1 (.seq (.reg [⟨(some 36), (.call (.f 198) [(.t 7)]), none⟩, ⟨(some 37), (.op (.mv (.t 8))), none⟩, ⟨(some 38), (.op (.bin .sub (.t 37) (.k (.int .u64 1)))), none⟩, ⟨(some 39), (.op (.bin .and (.t 36) (.t 38))), none⟩, ⟨(some 40), (.op (.conv (.int .i64) (.t 39))), none⟩, ⟨(some 10), (.op (.mv (.t 40))), none⟩])
   (.seq (.seq (.reg [⟨(some 41), (.op (.mv (.t 10))), none⟩, ⟨(some 42), (.op (.mv (.t 6))), none⟩, ⟨(some 43), (.op (.bin .geq (.t 41) (.t 42))), none⟩])
   (.cond (.t 43) (.reg [⟨(some 44), (.op (.mv (.t 10))), none⟩, ⟨(some 45), (.op (.mv (.t 6))), none⟩, ⟨(some 46), (.op (.bin .sub (.t 44) (.t 45))), none⟩, ⟨(some 10), (.op (.mv (.t 46))), none⟩])
   .skip))
   (.dreg (.quiet ⟨(some 47), (.op (.mv (.t 0))), none⟩ (.quiet ⟨(some 48), (.op (.mv (.t 9))), none⟩ (.quiet ⟨(some 49), (.op (.mv (.t 0))), none⟩ (.quiet ⟨(some 50), (.op (.mv (.t 1))), none⟩ (.quiet ⟨(some 51), (.op (.mv (.t 10))), none⟩ (.quiet ⟨(some 52), (.op (.bin .add (.t 50) (.t 51))), none⟩ (.quiet ⟨(some 53), (.op (.mv (.t 0))), none⟩ (.quiet ⟨(some 54), (.op (.mv (.t 1))), none⟩ (.quiet ⟨(some 55), (.op (.mv (.t 10))), none⟩ (.quiet ⟨(some 56), (.op (.bin .add (.t 54) (.t 55))), none⟩ (.quiet ⟨(some 57), (.op (.iaddrS 1 (.t 53) (.t 56))), none⟩ (.quiet ⟨(some 58), (.op (.load (.t 57))), none⟩ (.quiet ⟨(some 59), (.op (.mv (.t 0))), none⟩ (.quiet ⟨(some 60), (.op (.mv (.t 9))), none⟩ (.quiet ⟨(some 61), (.op (.iaddrS 1 (.t 59) (.t 60))), none⟩ (.quiet ⟨(some 62), (.op (.load (.t 61))), none⟩ (.quiet ⟨(some 63), (.op (.iaddrS 1 (.t 47) (.t 48))), none⟩ (.loud ⟨none, (.op (.store 1 (.t 63) (.t 58))), none⟩ [] (.quiet ⟨(some 64), (.op (.iaddrS 1 (.t 49) (.t 52))), none⟩ (.loud ⟨none, (.op (.store 1 (.t 64) (.t 62))), none⟩ [] .nil))))))))))))))))))))))))
   (.reg [⟨(some 34), (.op (.mv (.t 9))), none⟩, ⟨(some 35), (.op (.bin .add (.t 34) (.k (.int .i64 1)))), none⟩, ⟨(some 9), (.op (.mv (.t 35))), none⟩]))))))))
  .skip)))
def a158 : AF := ⟨65, [], .code b158, none⟩
theorem ok158 : AFOk Tryz.prog ext 158 a158 := .of Tryz.func158 (by kernel_rfl) (by kernel_rfl) (by kernel_rfl) (by kernel_rfl)
/-! 159: slices.choosePivotOrdered[int] -/
def b159 : AC :=
  (.seq (.reg [⟨(some 6), (.op (.mv (.k (.int .i64 0)))), none⟩, ⟨(some 7), (.op (.mv (.k (.int .i64 0)))), none⟩])
  (.seq (.reg [⟨(some 13), (.op (.mv (.t 2))), none⟩, ⟨(some 14), (.op (.mv (.t 1))), none⟩, ⟨(some 15), (.op (.bin .sub (.t 13) (.t 14))), none⟩, ⟨(some 8), (.op (.mv (.t 15))), none⟩])
  (.seq (.reg [⟨(some 9), (.op (.alloc 3 [(.int .i64 0)])), none⟩])
  (.seq (.reg [⟨(some 16), (.op (.mv (.t 1))), none⟩, ⟨(some 17), (.op (.mv (.t 8))), none⟩, ⟨(some 18), (.op (.bin .quo (.t 17) (.k (.int .i64 4)))), none⟩, ⟨(some 19), (.op (.bin .mul (.t 18) (.k (.int .i64 1)))), none⟩, ⟨(some 20), (.op (.bin .add (.t 16) (.t 19))), none⟩, ⟨(some 10), (.op (.mv (.t 20))), none⟩])
  (.seq (.reg [⟨(some 21), (.op (.mv (.t 1))), none⟩, ⟨(some 22), (.op (.mv (.t 8))), none⟩, ⟨(some 23), (.op (.bin .quo (.t 22) (.k (.int .i64 4)))), none⟩, ⟨(some 24), (.op (.bin .mul (.t 23) (.k (.int .i64 2)))), none⟩, ⟨(some 25), (.op (.bin .add (.t 21) (.t 24))), none⟩, ⟨(some 11), (.op (.mv (.t 25))), none⟩])
  (.seq (.reg [⟨(some 26), (.op (.mv (.t 1))), none⟩, ⟨(some 27), (.op (.mv (.t 8))), none⟩, ⟨(some 28), (.op (.bin .quo (.t 27) (.k (.int .i64 4)))), none⟩, ⟨(some 29), (.op (.bin .mul (.t 28) (.k (.int .i64 3)))), none⟩, ⟨(some 30), (.op (.bin .add (.t 26) (.t 29))), none⟩, ⟨(some 12), (.op (.mv (.t 30))), none⟩])
  (.seq (.seq (.reg [⟨(some 31), (.op (.mv (.t 8))), none⟩, ⟨(some 32), (.op (.bin .geq (.t 31) (.k (.int .i64 8)))), none⟩])
  (.cond (.t 32) (.seq (.seq (.reg [⟨(some 33), (.op (.mv (.t 8))), none⟩, ⟨(some 34), (.op (.bin .geq (.t 33) (.k (.int .i64 50)))), none⟩])
  (.cond (.t 34) (.seq (.reg [⟨(some 35), (.op (.mv (.t 0))), none⟩, ⟨(some 36), (.op (.mv (.t 10))), none⟩, ⟨(some 37), (.call (.f 199) [(.t 35), (.t 36), (.t 9)]), none⟩, ⟨(some 10), (.op (.mv (.t 37))), none⟩])
  (.seq (.reg [⟨(some 38), (.op (.mv (.t 0))), none⟩, ⟨(some 39), (.op (.mv (.t 11))), none⟩, ⟨(some 40), (.call (.f 199) [(.t 38), (.t 39), (.t 9)]), none⟩, ⟨(some 11), (.op (.mv (.t 40))), none⟩])
  (.reg [⟨(some 41), (.op (.mv (.t 0))), none⟩, ⟨(some 42), (.op (.mv (.t 12))), none⟩, ⟨(some 43), (.call (.f 199) [(.t 41), (.t 42), (.t 9)]), none⟩, ⟨(some 12), (.op (.mv (.t 43))), none⟩])))
  .skip))
  (.reg [⟨(some 44), (.op (.mv (.t 0))), none⟩, ⟨(some 45), (.op (.mv (.t 10))), none⟩, ⟨(some 46), (.op (.mv (.t 11))), none⟩, ⟨(some 47), (.op (.mv (.t 12))), none⟩, ⟨(some 48), (.call (.f 200) [(.t 44), (.t 45), (.t 46), (.t 47), (.t 9)]), none⟩, ⟨(some 11), (.op (.mv (.t 48))), none⟩]))
  .skip))
  (.seq (.reg [⟨(some 49), (.op (.load (.t 9))), none⟩])
  (.block 0 (.seq (.reg [⟨(some 52), (.op (.bin .eql (.t 49) (.k (.int .i64 0)))), none⟩, ⟨(some 51), (.op (.mv (.t 52))), none⟩])
  (.cond (.t 51) (.seq (.reg [⟨(some 53), (.op (.mv (.t 11))), none⟩, ⟨(some 6), (.op (.mv (.t 53))), none⟩, ⟨(some 7), (.op (.mv (.k (.int .i64 1)))), none⟩])
  .ret)
  (.seq (.reg [⟨(some 55), (.op (.bin .eql (.t 49) (.k (.int .i64 12)))), none⟩, ⟨(some 54), (.op (.mv (.t 55))), none⟩])
  (.cond (.t 54) (.seq (.reg [⟨(some 56), (.op (.mv (.t 11))), none⟩, ⟨(some 6), (.op (.mv (.t 56))), none⟩, ⟨(some 7), (.op (.mv (.k (.int .i64 2)))), none⟩])
  .ret)
  (.seq (.reg [⟨(some 50), (.op (.mv (.t 11))), none⟩, ⟨(some 6), (.op (.mv (.t 50))), none⟩, ⟨(some 7), (.op (.mv (.k (.int .i64 0)))), none⟩])
  .ret))))))))))))))
def a159 : AF := ⟨57, [(.t 6), (.t 7)], .code b159, none⟩
theorem ok159 : AFOk Tryz.prog ext 159 a159 := .of Tryz.func159 (by kernel_rfl) (by kernel_rfl) (by kernel_rfl) (by kernel_rfl)
/-! 160: slices.reverseRangeOrdered[int] -/
def b160 : AC :=
  (.seq (.reg [⟨(some 8), (.op (.mv (.t 1))), none⟩, ⟨(some 6), (.op (.mv (.t 8))), none⟩])
  (.seq (.reg [⟨(some 9), (.op (.mv (.t 2))), none⟩, ⟨(some 10), (.op (.bin .sub (.t 9) (.k (.int .i64 1)))), none⟩, ⟨(some 7), (.op (.mv (.t 10))), none⟩])
  (.block 0 (.loop (.seq (.seq (.reg [⟨(some 11), (.op (.mv (.t 6))), none⟩, ⟨(some 12), (.op (.mv (.t 7))), none⟩, ⟨(some 13), (.op (.bin .lss (.t 11) (.t 12))), none⟩])
   (.cond (.t 13) .skip
   (.exit 0)))
   (.block 1 (.seq (.dreg (.quiet ⟨(some 14), (.op (.mv (.t 0))), none⟩ (.quiet ⟨(some 15), (.op (.mv (.t 6))), none⟩ (.quiet ⟨(some 16), (.op (.mv (.t 0))), none⟩ (.quiet ⟨(some 17), (.op (.mv (.t 7))), none⟩ (.quiet ⟨(some 18), (.op (.mv (.t 0))), none⟩ (.quiet ⟨(some 19), (.op (.mv (.t 7))), none⟩ (.quiet ⟨(some 20), (.op (.iaddrS 1 (.t 18) (.t 19))), none⟩ (.quiet ⟨(some 21), (.op (.load (.t 20))), none⟩ (.quiet ⟨(some 22), (.op (.mv (.t 0))), none⟩ (.quiet ⟨(some 23), (.op (.mv (.t 6))), none⟩ (.quiet ⟨(some 24), (.op (.iaddrS 1 (.t 22) (.t 23))), none⟩ (.quiet ⟨(some 25), (.op (.load (.t 24))), none⟩ (.quiet ⟨(some 26), (.op (.iaddrS 1 (.t 14) (.t 15))), none⟩ (.loud ⟨none, (.op (.store 1 (.t 26) (.t 21))), none⟩ [] (.quiet ⟨(some 27), (.op (.iaddrS 1 (.t 16) (.t 17))), none⟩ (.loud ⟨none, (.op (.store 1 (.t 27) (.t 25))), none⟩ [] .nil)))))))))))))))))
   (.seq (.reg [⟨(some 28), (.op (.mv (.t 6))), none⟩, ⟨(some 29), (.op (.bin .add (.t 28) (.k (.int .i64 1)))), none⟩, ⟨(some 6), (.op (.mv (.t 29))), none⟩])
   (.reg [⟨(some 30), (.op (.mv (.t 7))), none⟩, ⟨(some 31), (.op (.bin .sub (.t 30) (.k (.int .i64 1)))), none⟩, ⟨(some 7), (.op (.mv (.t 31))), none⟩])))))))))
def a160 : AF := ⟨32, [], .code b160, none⟩
theorem ok160 : AFOk Tryz.prog ext 160 a160 := .of Tryz.func160 (by kernel_rfl) (by kernel_rfl) (by kernel_rfl) (by kernel_rfl)
/-! 161: slices.partialInsertionSortOrdered[int] -/
def b161 : AC :=
  (.seq (.reg [⟨(some 6), (.op (.mv (.k (.bool false)))), none⟩])
  (.seq (.reg [⟨(some 11), (.op (.mv (.t 1))), none⟩, ⟨(some 12), (.op (.bin .add (.t 11) (.k (.int .i64 1)))), none⟩, ⟨(some 7), (.op (.mv (.t 12))), none⟩])
  (.seq (.seq (.reg [⟨(some 8), (.op (.mv (.k (.int .i64 0)))), none⟩])
  (.block 0 (.loop (.seq (.seq (.reg [⟨(some 13), (.op (.mv (.t 8))), none⟩, ⟨(some 14), (.op (.bin .lss (.t 13) (.k (.int .i64 5)))), none⟩])
   (.cond (.t 14) .skip
   (.exit 0)))
   (.seq (.block 1 (.seq (.block 2 (.loop (.seq (.seq (.dreg (.quiet ⟨(some 17), (.op (.mv (.t 7))), none⟩ (.quiet ⟨(some 18), (.op (.mv (.t 2))), none⟩ (.quiet ⟨(some 19), (.op (.bin .lss (.t 17) (.t 18))), none⟩ (.quiet ⟨(some 20), (.op (.mv (.t 19))), none⟩ (.quiet ⟨(some 21), (.op (.mv (.t 0))), (some (20, true))⟩ (.quiet ⟨(some 22), (.op (.mv (.t 7))), (some (20, true))⟩ (.quiet ⟨(some 23), (.op (.iaddrS 1 (.t 21) (.t 22))), (some (20, true))⟩ (.quiet ⟨(some 24), (.op (.load (.t 23))), (some (20, true))⟩ (.quiet ⟨(some 25), (.op (.mv (.t 0))), (some (20, true))⟩ (.quiet ⟨(some 26), (.op (.mv (.t 7))), (some (20, true))⟩ (.quiet ⟨(some 27), (.op (.bin .sub (.t 26) (.k (.int .i64 1)))), (some (20, true))⟩ (.quiet ⟨(some 28), (.op (.iaddrS 1 (.t 25) (.t 27))), (some (20, true))⟩ (.quiet ⟨(some 29), (.op (.load (.t 28))), (some (20, true))⟩ (.loud ⟨(some 30), (.call (.f 162) [(.t 24), (.t 29)]), (some (20, true))⟩ [] (.quiet ⟨(some 31), (.op (.un .not (.t 30))), (some (20, true))⟩ (.quiet ⟨(some 32), (.op (.pick (.t 20) (.t 31) (.k (.bool false)))), none⟩ .nil)))))))))))))))))
    (.cond (.t 32) .skip
    (.exit 2)))
    (.block 3 (.reg [⟨(some 33), (.op (.mv (.t 7))), none⟩, ⟨(some 34), (.op (.bin .add (.t 33) (.k (.int .i64 1)))), none⟩, ⟨(some 7), (.op (.mv (.t 34))), none⟩])))))
   (.seq (.seq (.reg [⟨(some 35), (.op (.mv (.t 7))), none⟩, ⟨(some 36), (.op (.mv (.t 2))), none⟩, ⟨(some 37), (.op (.bin .eql (.t 35) (.t 36))), none⟩])
   (.cond (.t 37) (.seq (.reg [⟨(some 6), (.op (.mv (.k (.bool true)))), none⟩])
   .ret)
   .skip))
   (.seq (.seq (.reg [⟨(some 38), (.op (.mv (.t 2))), none⟩, ⟨(some 39), (.op (.mv (.t 1))), none⟩, ⟨(some 40), (.op (.bin .sub (.t 38) (.t 39))), none⟩, ⟨(some 41), (.op (.bin .lss (.t 40) (.k (.int .i64 50)))), none⟩])
   (.cond (.t 41) (.seq (.reg [⟨(some 6), (.op (.mv (.k (.bool false)))), none⟩])
   .ret)
   .skip))
   (.seq (.dreg (.quiet ⟨(some 42), (.op (.mv (.t 0))), none⟩ (.quiet ⟨(some 43), (.op (.mv (.t 7))), none⟩ (.quiet ⟨(some 44), (.op (.mv (.t 0))), none⟩ (.quiet ⟨(some 45), (.op (.mv (.t 7))), none⟩ (.quiet ⟨(some 46), (.op (.bin .sub (.t 45) (.k (.int .i64 1)))), none⟩ (.quiet ⟨(some 47), (.op (.mv (.t 0))), none⟩ (.quiet ⟨(some 48), (.op (.mv (.t 7))), none⟩ (.quiet ⟨(some 49), (.op (.bin .sub (.t 48) (.k (.int .i64 1)))), none⟩ (.quiet ⟨(some 50), (.op (.iaddrS 1 (.t 47) (.t 49))), none⟩ (.quiet ⟨(some 51), (.op (.load (.t 50))), none⟩ (.quiet ⟨(some 52), (.op (.mv (.t 0))), none⟩ (.quiet ⟨(some 53), (.op (.mv (.t 7))), none⟩ (.quiet ⟨(some 54), (.op (.iaddrS 1 (.t 52) (.t 53))), none⟩ (.quiet ⟨(some 55), (.op (.load (.t 54))), none⟩ (.quiet ⟨(some 56), (.op (.iaddrS 1 (.t 42) (.t 43))), none⟩ (.loud ⟨none, (.op (.store 1 (.t 56) (.t 51))), none⟩ [] (.quiet ⟨(some 57), (.op (.iaddrS 1 (.t 44) (.t 46))), none⟩ (.loud ⟨none, (.op (.store 1 (.t 57) (.t 55))), none⟩ [] .nil)))))))))))))))))))
   (.seq (.seq (.reg [⟨(some 58), (.op (.mv (.t 7))), none⟩, ⟨(some 59), (.op (.mv (.t 1))), none⟩, ⟨(some 60), (.op (.bin .sub (.t 58) (.t 59))), none⟩, ⟨(some 61), (.op (.bin .geq (.t 60) (.k (.int .i64 2)))), none⟩])
   (.cond (.t 61) (.seq (.reg [⟨(some 62), (.op (.mv (.t 7))), none⟩, ⟨(some 63), (.op (.bin .sub (.t 62) (.k (.int .i64 1)))), none⟩, ⟨(some 9), (.op (.mv (.t 63))), none⟩])
   (.block 4 (.loop (.seq (.seq (.reg [⟨(some 64), (.op (.mv (.t 9))), none⟩, ⟨(some 65), (.op (.bin .geq (.t 64) (.k (.int .i64 1)))), none⟩])
    (.cond (.t 65) .skip
    (.exit 4)))
    (.seq (.block 5 (.seq (.seq (.dreg (.quiet ⟨(some 68), (.op (.mv (.t 0))), none⟩ (.quiet ⟨(some 69), (.op (.mv (.t 9))), none⟩ (.quiet ⟨(some 70), (.op (.iaddrS 1 (.t 68) (.t 69))), none⟩ (.quiet ⟨(some 71), (.op (.load (.t 70))), none⟩ (.quiet ⟨(some 72), (.op (.mv (.t 0))), none⟩ (.quiet ⟨(some 73), (.op (.mv (.t 9))), none⟩ (.quiet ⟨(some 74), (.op (.bin .sub (.t 73) (.k (.int .i64 1)))), none⟩ (.quiet ⟨(some 75), (.op (.iaddrS 1 (.t 72) (.t 74))), none⟩ (.quiet ⟨(some 76), (.op (.load (.t 75))), none⟩ (.loud ⟨(some 77), (.call (.f 162) [(.t 71), (.t 76)]), none⟩ [] (.quiet ⟨(some 78), (.op (.un .not (.t 77))), none⟩ .nil))))))))))))
    (.cond (.t 78) (.exit 4)
    .skip))
    (.dreg (.quiet ⟨(some 79), (.op (.mv (.t 0))), none⟩ (.quiet ⟨(some 80), (.op (.mv (.t 9))), none⟩ (.quiet ⟨(some 81), (.op (.mv (.t 0))), none⟩ (.quiet ⟨(some 82), (.op (.mv (.t 9))), none⟩ (.quiet ⟨(some 83), (.op (.bin .sub (.t 82) (.k (.int .i64 1)))), none⟩ (.quiet ⟨(some 84), (.op (.mv (.t 0))), none⟩ (.quiet ⟨(some 85), (.op (.mv (.t 9))), none⟩ (.quiet ⟨(some 86), (.op (.bin .sub (.t 85) (.k (.int .i64 1)))), none⟩ (.quiet ⟨(some 87), (.op (.iaddrS 1 (.t 84) (.t 86))), none⟩ (.quiet ⟨(some 88), (.op (.load (.t 87))), none⟩ (.quiet ⟨(some 89), (.op (.mv (.t 0))), none⟩ (.quiet ⟨(some 90), (.op (.mv (.t 9))), none⟩ (.quiet ⟨(some 91), (.op (.iaddrS 1 (.t 89) (.t 90))), none⟩ (.quiet ⟨(some 92), (.op (.load (.t 91))), none⟩ (.quiet ⟨(some 93), (.op (.iaddrS 1 (.t 79) (.t 80))), none⟩ (.loud ⟨none, (.op (.store 1 (.t 93) (.t 88))), none⟩ [] (.quiet ⟨(some 94), (.op (.iaddrS 1 (.t 81) (.t 83))), none⟩ (.loud ⟨none, (.op (.store 1 (.t 94) (.t 92))), none⟩ [] .nil)))))))))))))))))))))
    (.reg [⟨(some 66), (.op (.mv (.t 9))), none⟩, ⟨(some 67), (.op (.bin .sub (.t 66) (.k (.int .i64 1)))), none⟩, ⟨(some 9), (.op (.mv (.t 67))), none⟩]))))))
   .skip))
   (.seq (.reg [⟨(some 95), (.op (.mv (.t 2))), none⟩, ⟨(some 96), (.op (.mv (.t 7))), none⟩, ⟨(some 97), (.op (.bin .sub (.t 95) (.t 96))), none⟩, ⟨(some 98), (.op (.bin .geq (.t 97) (.k (.int .i64 2)))), none⟩])
   (.cond (.t 98) (.seq (.reg [⟨(some 99), (.op (.mv (.t 7))), none⟩, ⟨(some 100), (.op (.bin .add (.t 99) (.k (.int .i64 1)))), none⟩, ⟨(some 10), (.op (.mv (.t 100))), none⟩])
   (.block 6 (.loop (.seq (.seq (.reg [⟨(some 101), (.op (.mv (.t 10))), none⟩, ⟨(some 102), (.op (.mv (.t 2))), none⟩, ⟨(some 103), (.op (.bin .lss (.t 101) (.t 102))), none⟩])
    (.cond (.t 103) .skip
    (.exit 6)))
    (.seq (.block 7 (.seq (.seq (.dreg (.quiet ⟨(some 106), (.op (.mv (.t 0))), none⟩ (.quiet ⟨(some 107), (.op (.mv (.t 10))), none⟩ (.quiet ⟨(some 108), (.op (.iaddrS 1 (.t 106) (.t 107))), none⟩ (.quiet ⟨(some 109), (.op (.load (.t 108))), none⟩ (.quiet ⟨(some 110), (.op (.mv (.t 0))), none⟩ (.quiet ⟨(some 111), (.op (.mv (.t 10))), none⟩ (.quiet ⟨(some 112), (.op (.bin .sub (.t 111) (.k (.int .i64 1)))), none⟩ (.quiet ⟨(some 113), (.op (.iaddrS 1 (.t 110) (.t 112))), none⟩ (.quiet ⟨(some 114), (.op (.load (.t 113))), none⟩ (.loud ⟨(some 115), (.call (.f 162) [(.t 109), (.t 114)]), none⟩ [] (.quiet ⟨(some 116), (.op (.un .not (.t 115))), none⟩ .nil))))))))))))
    (.cond (.t 116) (.exit 6)
    .skip))
    (.dreg (.quiet ⟨(some 117), (.op (.mv (.t 0))), none⟩ (.quiet ⟨(some 118), (.op (.mv (.t 10))), none⟩ (.quiet ⟨(some 119), (.op (.mv (.t 0))), none⟩ (.quiet ⟨(some 120), (.op (.mv (.t 10))), none⟩ (.quiet ⟨(some 121), (.op (.bin .sub (.t 120) (.k (.int .i64 1)))), none⟩ (.quiet ⟨(some 122), (.op (.mv (.t 0))), none⟩ (.quiet ⟨(some 123), (.op (.mv (.t 10))), none⟩ (.quiet ⟨(some 124), (.op (.bin .sub (.t 123) (.k (.int .i64 1)))), none⟩ (.quiet ⟨(some 125), (.op (.iaddrS 1 (.t 122) (.t 124))), none⟩ (.quiet ⟨(some 126), (.op (.load (.t 125))), none⟩ (.quiet ⟨(some 127), (.op (.mv (.t 0))), none⟩ (.quiet ⟨(some 128), (.op (.mv (.t 10))), none⟩ (.quiet ⟨(some 129), (.op (.iaddrS 1 (.t 127) (.t 128))), none⟩ (.quiet ⟨(some 130), (.op (.load (.t 129))), none⟩ (.quiet ⟨(some 131), (.op (.iaddrS 1 (.t 117) (.t 118))), none⟩ (.loud ⟨none, (.op (.store 1 (.t 131) (.t 126))), none⟩ [] (.quiet ⟨(some 132), (.op (.iaddrS 1 (.t 119) (.t 121))), none⟩ (.loud ⟨none, (.op (.store 1 (.t 132) (.t 130))), none⟩ [] .nil)))))))))))))))))))))
    (.reg [⟨(some 104), (.op (.mv (.t 10))), none⟩, ⟨(some 105), (.op (.bin .add (.t 104) (.k (.int .i64 1)))), none⟩, ⟨(some 10), (.op (.mv (.t 105))), none⟩]))))))
   .skip))))))))
   (.reg [⟨(some 15), (.op (.mv (.t 8))), none⟩, ⟨(some 16), (.op (.bin .add (.t 15) (.k (.int .i64 1)))), none⟩, ⟨(some 8), (.op (.mv (.t 16))), none⟩]))))))
  (.seq (.reg [⟨(some 6), (.op (.mv (.k (.bool false)))), none⟩])
  .ret))))
def a161 : AF := ⟨133, [(.t 6)], .code b161, none⟩
theorem ok161 : AFOk Tryz.prog ext 161 a161 := .of Tryz.func161 (by kernel_rfl) (by kernel_rfl) (by kernel_rfl) (by kernel_rfl)
/-! 162: cmp.Less[int] -/
def b162 : AC :=
  (.seq (.reg [⟨(some 4), (.op (.mv (.k (.bool false)))), none⟩])
  (.seq (.reg [⟨(some 5), (.op (.mv (.t 0))), none⟩, ⟨(some 6), (.call (.f 201) [(.t 5)]), none⟩, ⟨(some 7), (.op (.mv (.t 6))), none⟩, ⟨(some 8), (.op (.mv (.t 1))), (some (7, true))⟩, ⟨(some 9), (.call (.f 201) [(.t 8)]), (some (7, true))⟩, ⟨(some 10), (.op (.un .not (.t 9))), (some (7, true))⟩, ⟨(some 11), (.op (.pick (.t 7) (.t 10) (.k (.bool false)))), none⟩, ⟨(some 12), (.op (.mv (.t 11))), none⟩, ⟨(some 13), (.op (.mv (.t 0))), (some (12, false))⟩, ⟨(some 14), (.op (.mv (.t 1))), (some (12, false))⟩, ⟨(some 15), (.op (.bin .lss (.t 13) (.t 14))), (some (12, false))⟩, ⟨(some 16), (.op (.pick (.t 12) (.k (.bool true)) (.t 15))), none⟩, ⟨(some 4), (.op (.mv (.t 16))), none⟩])
  .ret))
def a162 : AF := ⟨17, [(.t 4)], .code b162, none⟩
theorem ok162 : AFOk Tryz.prog ext 162 a162 := .of Tryz.func162 (by kernel_rfl) (by kernel_rfl) (by kernel_rfl) (by kernel_rfl)
/-! 163: slices.partitionEqualOrdered[int] -/
def b163 : AC :=
  (.seq (.reg [⟨(some 8), (.op (.mv (.k (.int .i64 0)))), none⟩])
  (.seq (.dreg (.quiet ⟨(some 11), (.op (.mv (.t 0))), none⟩ (.quiet ⟨(some 12), (.op (.mv (.t 1))), none⟩ (.quiet ⟨(some 13), (.op (.mv (.t 0))), none⟩ (.quiet ⟨(some 14), (.op (.mv (.t 3))), none⟩ (.quiet ⟨(some 15), (.op (.mv (.t 0))), none⟩ (.quiet ⟨(some 16), (.op (.mv (.t 3))), none⟩ (.quiet ⟨(some 17), (.op (.iaddrS 1 (.t 15) (.t 16))), none⟩ (.quiet ⟨(some 18), (.op (.load (.t 17))), none⟩ (.quiet ⟨(some 19), (.op (.mv (.t 0))), none⟩ (.quiet ⟨(some 20), (.op (.mv (.t 1))), none⟩ (.quiet ⟨(some 21), (.op (.iaddrS 1 (.t 19) (.t 20))), none⟩ (.quiet ⟨(some 22), (.op (.load (.t 21))), none⟩ (.quiet ⟨(some 23), (.op (.iaddrS 1 (.t 11) (.t 12))), none⟩ (.loud ⟨none, (.op (.store 1 (.t 23) (.t 18))), none⟩ [] (.quiet ⟨(some 24), (.op (.iaddrS 1 (.t 13) (.t 14))), none⟩ (.loud ⟨none, (.op (.store 1 (.t 24) (.t 22))), none⟩ [] .nil)))))))))))))))))
  (.seq (.reg [⟨(some 25), (.op (.mv (.t 1))), none⟩, ⟨(some 26), (.op (.bin .add (.t 25) (.k (.int .i64 1)))), none⟩, ⟨(some 27), (.op (.mv (.t 2))), none⟩, ⟨(some 28), (.op (.bin .sub (.t 27) (.k (.int .i64 1)))), none⟩, ⟨(some 9), (.op (.mv (.t 26))), none⟩, ⟨(some 10), (.op (.mv (.t 28))), none⟩])
  (.seq (.block 0 (.loop (.block 1 (.seq (.block 2 (.loop (.seq (.seq (.dreg (.quiet ⟨(some 29), (.op (.mv (.t 9))), none⟩ (.quiet ⟨(some 30), (.op (.mv (.t 10))), none⟩ (.quiet ⟨(some 31), (.op (.bin .leq (.t 29) (.t 30))), none⟩ (.quiet ⟨(some 32), (.op (.mv (.t 31))), none⟩ (.quiet ⟨(some 33), (.op (.mv (.t 0))), (some (32, true))⟩ (.quiet ⟨(some 34), (.op (.mv (.t 1))), (some (32, true))⟩ (.quiet ⟨(some 35), (.op (.iaddrS 1 (.t 33) (.t 34))), (some (32, true))⟩ (.quiet ⟨(some 36), (.op (.load (.t 35))), (some (32, true))⟩ (.quiet ⟨(some 37), (.op (.mv (.t 0))), (some (32, true))⟩ (.quiet ⟨(some 38), (.op (.mv (.t 9))), (some (32, true))⟩ (.quiet ⟨(some 39), (.op (.iaddrS 1 (.t 37) (.t 38))), (some (32, true))⟩ (.quiet ⟨(some 40), (.op (.load (.t 39))), (some (32, true))⟩ (.loud ⟨(some 41), (.call (.f 162) [(.t 36), (.t 40)]), (some (32, true))⟩ [] (.quiet ⟨(some 42), (.op (.un .not (.t 41))), (some (32, true))⟩ (.quiet ⟨(some 43), (.op (.pick (.t 32) (.t 42) (.k (.bool false)))), none⟩ .nil))))))))))))))))
    (.cond (.t 43) .skip
    (.exit 2)))
    (.block 3 (.reg [⟨(some 44), (.op (.mv (.t 9))), none⟩, ⟨(some 45), (.op (.bin .add (.t 44) (.k (.int .i64 1)))), none⟩, ⟨(some 9), (.op (.mv (.t 45))), none⟩])))))
   (.seq (.block 4 (.loop (.seq (.seq (.dreg (.quiet ⟨(some 46), (.op (.mv (.t 9))), none⟩ (.quiet ⟨(some 47), (.op (.mv (.t 10))), none⟩ (.quiet ⟨(some 48), (.op (.bin .leq (.t 46) (.t 47))), none⟩ (.quiet ⟨(some 49), (.op (.mv (.t 48))), none⟩ (.quiet ⟨(some 50), (.op (.mv (.t 0))), (some (49, true))⟩ (.quiet ⟨(some 51), (.op (.mv (.t 1))), (some (49, true))⟩ (.quiet ⟨(some 52), (.op (.iaddrS 1 (.t 50) (.t 51))), (some (49, true))⟩ (.quiet ⟨(some 53), (.op (.load (.t 52))), (some (49, true))⟩ (.quiet ⟨(some 54), (.op (.mv (.t 0))), (some (49, true))⟩ (.quiet ⟨(some 55), (.op (.mv (.t 10))), (some (49, true))⟩ (.quiet ⟨(some 56), (.op (.iaddrS 1 (.t 54) (.t 55))), (some (49, true))⟩ (.quiet ⟨(some 57), (.op (.load (.t 56))), (some (49, true))⟩ (.loud ⟨(some 58), (.call (.f 162) [(.t 53), (.t 57)]), (some (49, true))⟩ [] (.quiet ⟨(some 59), (.op (.pick (.t 49) (.t 58) (.k (.bool false)))), none⟩ .nil)))))))))))))))
    (.cond (.t 59) .skip
    (.exit 4)))
    (.block 5 (.reg [⟨(some 60), (.op (.mv (.t 10))), none⟩, ⟨(some 61), (.op (.bin .sub (.t 60) (.k (.int .i64 1)))), none⟩, ⟨(some 10), (.op (.mv (.t 61))), none⟩])))))
   (.seq (.seq (.reg [⟨(some 62), (.op (.mv (.t 9))), none⟩, ⟨(some 63), (.op (.mv (.t 10))), none⟩, ⟨(some 64), (.op (.bin .gtr (.t 62) (.t 63))), none⟩])
   (.cond (.t 64) (.exit 0)
   .skip))
   (.seq (.dreg (.quiet ⟨(some 65), (.op (.mv (.t 0))), none⟩ (.quiet ⟨(some 66), (.op (.mv (.t 9))), none⟩ (.quiet ⟨(some 67), (.op (.mv (.t 0))), none⟩ (.quiet ⟨(some 68), (.op (.mv (.t 10))), none⟩ (.quiet ⟨(some 69), (.op (.mv (.t 0))), none⟩ (.quiet ⟨(some 70), (.op (.mv (.t 10))), none⟩ (.quiet ⟨(some 71), (.op (.iaddrS 1 (.t 69) (.t 70))), none⟩ (.quiet ⟨(some 72), (.op (.load (.t 71))), none⟩ (.quiet ⟨(some 73), (.op (.mv (.t 0))), none⟩ (.quiet ⟨(some 74), (.op (.mv (.t 9))), none⟩ (.quiet ⟨(some 75), (.op (.iaddrS 1 (.t 73) (.t 74))), none⟩ (.quiet ⟨(some 76), (.op (.load (.t 75))), none⟩ (.quiet ⟨(some 77), (.op (.iaddrS 1 (.t 65) (.t 66))), none⟩ (.loud ⟨none, (.op (.store 1 (.t 77) (.t 72))), none⟩ [] (.quiet ⟨(some 78), (.op (.iaddrS 1 (.t 67) (.t 68))), none⟩ (.loud ⟨none, (.op (.store 1 (.t 78) (.t 76))), none⟩ [] .nil)))))))))))))))))
   (.seq (.reg [⟨(some 79), (.op (.mv (.t 9))), none⟩, ⟨(some 80), (.op (.bin .add (.t 79) (.k (.int .i64 1)))), none⟩, ⟨(some 9), (.op (.mv (.t 80))), none⟩])
   (.reg [⟨(some 81), (.op (.mv (.t 10))), none⟩, ⟨(some 82), (.op (.bin .sub (.t 81) (.k (.int .i64 1)))), none⟩, ⟨(some 10), (.op (.mv (.t 82))), none⟩])))))))))
  (.seq (.reg [⟨(some 83), (.op (.mv (.t 9))), none⟩, ⟨(some 8), (.op (.mv (.t 83))), none⟩])
  .ret)))))
def a163 : AF := ⟨84, [(.t 8)], .code b163, none⟩
theorem ok163 : AFOk Tryz.prog ext 163 a163 := .of Tryz.func163 (by kernel_rfl) (by kernel_rfl) (by kernel_rfl) (by kernel_rfl)
/-! 164: slices.partitionOrdered[int] -/
def b164 : AC :=
  (.seq (.reg [⟨(some 8), (.op (.mv (.k (.int .i64 0)))), none⟩, ⟨(some 9), (.op (.mv (.k (.bool false)))), none⟩])
  (.seq (.dreg (.quiet ⟨(some 12), (.op (.mv (.t 0))), none⟩ (.quiet ⟨(some 13), (.op (.mv (.t 1))), none⟩ (.quiet ⟨(some 14), (.op (.mv (.t 0))), none⟩ (.quiet ⟨(some 15), (.op (.mv (.t 3))), none⟩ (.quiet ⟨(some 16), (.op (.mv (.t 0))), none⟩ (.quiet ⟨(some 17), (.op (.mv (.t 3))), none⟩ (.quiet ⟨(some 18), (.op (.iaddrS 1 (.t 16) (.t 17))), none⟩ (.quiet ⟨(some 19), (.op (.load (.t 18))), none⟩ (.quiet ⟨(some 20), (.op (.mv (.t 0))), none⟩ (.quiet ⟨(some 21), (.op (.mv (.t 1))), none⟩ (.quiet ⟨(some 22), (.op (.iaddrS 1 (.t 20) (.t 21))), none⟩ (.quiet ⟨(some 23), (.op (.load (.t 22))), none⟩ (.quiet ⟨(some 24), (.op (.iaddrS 1 (.t 12) (.t 13))), none⟩ (.loud ⟨none, (.op (.store 1 (.t 24) (.t 19))), none⟩ [] (.quiet ⟨(some 25), (.op (.iaddrS 1 (.t 14) (.t 15))), none⟩ (.loud ⟨none, (.op (.store 1 (.t 25) (.t 23))), none⟩ [] .nil)))))))))))))))))
  (.seq (.reg [⟨(some 26), (.op (.mv (.t 1))), none⟩, ⟨(some 27), (.op (.bin .add (.t 26) (.k (.int .i64 1)))), none⟩, ⟨(some 28), (.op (.mv (.t 2))), none⟩, ⟨(some 29), (.op (.bin .sub (.t 28) (.k (.int .i64 1)))), none⟩, ⟨(some 10), (.op (.mv (.t 27))), none⟩, ⟨(some 11), (.op (.mv (.t 29))), none⟩])
  (.seq (.block 0 (.loop (.seq (.seq (.dreg (.quiet ⟨(some 30), (.op (.mv (.t 10))), none⟩ (.quiet ⟨(some 31), (.op (.mv (.t 11))), none⟩ (.quiet ⟨(some 32), (.op (.bin .leq (.t 30) (.t 31))), none⟩ (.quiet ⟨(some 33), (.op (.mv (.t 32))), none⟩ (.quiet ⟨(some 34), (.op (.mv (.t 0))), (some (33, true))⟩ (.quiet ⟨(some 35), (.op (.mv (.t 10))), (some (33, true))⟩ (.quiet ⟨(some 36), (.op (.iaddrS 1 (.t 34) (.t 35))), (some (33, true))⟩ (.quiet ⟨(some 37), (.op (.load (.t 36))), (some (33, true))⟩ (.quiet ⟨(some 38), (.op (.mv (.t 0))), (some (33, true))⟩ (.quiet ⟨(some 39), (.op (.mv (.t 1))), (some (33, true))⟩ (.quiet ⟨(some 40), (.op (.iaddrS 1 (.t 38) (.t 39))), (some (33, true))⟩ (.quiet ⟨(some 41), (.op (.load (.t 40))), (some (33, true))⟩ (.loud ⟨(some 42), (.call (.f 162) [(.t 37), (.t 41)]), (some (33, true))⟩ [] (.quiet ⟨(some 43), (.op (.pick (.t 33) (.t 42) (.k (.bool false)))), none⟩ .nil)))))))))))))))
   (.cond (.t 43) .skip
   (.exit 0)))
   (.block 1 (.reg [⟨(some 44), (.op (.mv (.t 10))), none⟩, ⟨(some 45), (.op (.bin .add (.t 44) (.k (.int .i64 1)))), none⟩, ⟨(some 10), (.op (.mv (.t 45))), none⟩])))))
  (.seq (.block 2 (.loop (.seq (.seq (.dreg (.quiet ⟨(some 46), (.op (.mv (.t 10))), none⟩ (.quiet ⟨(some 47), (.op (.mv (.t 11))), none⟩ (.quiet ⟨(some 48), (.op (.bin .leq (.t 46) (.t 47))), none⟩ (.quiet ⟨(some 49), (.op (.mv (.t 48))), none⟩ (.quiet ⟨(some 50), (.op (.mv (.t 0))), (some (49, true))⟩ (.quiet ⟨(some 51), (.op (.mv (.t 11))), (some (49, true))⟩ (.quiet ⟨(some 52), (.op (.iaddrS 1 (.t 50) (.t 51))), (some (49, true))⟩ (.quiet ⟨(some 53), (.op (.load (.t 52))), (some (49, true))⟩ (.quiet ⟨(some 54), (.op (.mv (.t 0))), (some (49, true))⟩ (.quiet ⟨(some 55), (.op (.mv (.t 1))), (some (49, true))⟩ (.quiet ⟨(some 56), (.op (.iaddrS 1 (.t 54) (.t 55))), (some (49, true))⟩ (.quiet ⟨(some 57), (.op (.load (.t 56))), (some (49, true))⟩ (.loud ⟨(some 58), (.call (.f 162) [(.t 53), (.t 57)]), (some (49, true))⟩ [] (.quiet ⟨(some 59), (.op (.un .not (.t 58))), (some (49, true))⟩ (.quiet ⟨(some 60), (.op (.pick (.t 49) (.t 59) (.k (.bool false)))), none⟩ .nil))))))))))))))))
   (.cond (.t 60) .skip
   (.exit 2)))
   (.block 3 (.reg [⟨(some 61), (.op (.mv (.t 11))), none⟩, ⟨(some 62), (.op (.bin .sub (.t 61) (.k (.int .i64 1)))), none⟩, ⟨(some 11), (.op (.mv (.t 62))), none⟩])))))
  (.seq (.seq (.reg [⟨(some 63), (.op (.mv (.t 10))), none⟩, ⟨(some 64), (.op (.mv (.t 11))), none⟩, ⟨(some 65), (.op (.bin .gtr (.t 63) (.t 64))), none⟩])
  (.cond (.t 65) (.seq (.dreg (.quiet ⟨(some 66), (.op (.mv (.t 0))), none⟩ (.quiet ⟨(some 67), (.op (.mv (.t 11))), none⟩ (.quiet ⟨(some 68), (.op (.mv (.t 0))), none⟩ (.quiet ⟨(some 69), (.op (.mv (.t 1))), none⟩ (.quiet ⟨(some 70), (.op (.mv (.t 0))), none⟩ (.quiet ⟨(some 71), (.op (.mv (.t 1))), none⟩ (.quiet ⟨(some 72), (.op (.iaddrS 1 (.t 70) (.t 71))), none⟩ (.quiet ⟨(some 73), (.op (.load (.t 72))), none⟩ (.quiet ⟨(some 74), (.op (.mv (.t 0))), none⟩ (.quiet ⟨(some 75), (.op (.mv (.t 11))), none⟩ (.quiet ⟨(some 76), (.op (.iaddrS 1 (.t 74) (.t 75))), none⟩ (.quiet ⟨(some 77), (.op (.load (.t 76))), none⟩ (.quiet ⟨(some 78), (.op (.iaddrS 1 (.t 66) (.t 67))), none⟩ (.loud ⟨none, (.op (.store 1 (.t 78) (.t 73))), none⟩ [] (.quiet ⟨(some 79), (.op (.iaddrS 1 (.t 68) (.t 69))), none⟩ (.loud ⟨none, (.op (.store 1 (.t 79) (.t 77))), none⟩ [] .nil)))))))))))))))))
  (.seq (.reg [⟨(some 80), (.op (.mv (.t 11))), none⟩, ⟨(some 8), (.op (.mv (.t 80))), none⟩, ⟨(some 9), (.op (.mv (.k (.bool true)))), none⟩])
  .ret))
  .skip))
  (.seq (.dreg (.quiet ⟨(some 81), (.op (.mv (.t 0))), none⟩ (.quiet ⟨(some 82), (.op (.mv (.t 10))), none⟩ (.quiet ⟨(some 83), (.op (.mv (.t 0))), none⟩ (.quiet ⟨(some 84), (.op (.mv (.t 11))), none⟩ (.quiet ⟨(some 85), (.op (.mv (.t 0))), none⟩ (.quiet ⟨(some 86), (.op (.mv (.t 11))), none⟩ (.quiet ⟨(some 87), (.op (.iaddrS 1 (.t 85) (.t 86))), none⟩ (.quiet ⟨(some 88), (.op (.load (.t 87))), none⟩ (.quiet ⟨(some 89), (.op (.mv (.t 0))), none⟩ (.quiet ⟨(some 90), (.op (.mv (.t 10))), none⟩ (.quiet ⟨(some 91), (.op (.iaddrS 1 (.t 89) (.t 90))), none⟩ (.quiet ⟨(some 92), (.op (.load (.t 91))), none⟩ (.quiet ⟨(some 93), (.op (.iaddrS 1 (.t 81) (.t 82))), none⟩ (.loud ⟨none, (.op (.store 1 (.t 93) (.t 88))), none⟩ [] (.quiet ⟨(some 94), (.op (.iaddrS 1 (.t 83) (.t 84))), none⟩ (.loud ⟨none, (.op (.store 1 (.t 94) (.t 92))), none⟩ [] .nil)))))))))))))))))
  (.seq (.reg [⟨(some 95), (.op (.mv (.t 10))), none⟩, ⟨(some 96), (.op (.bin .add (.t 95) (.k (.int .i64 1)))), none⟩, ⟨(some 10), (.op (.mv (.t 96))), none⟩])
  (.seq (.reg [⟨(some 97), (.op (.mv (.t 11))), none⟩, ⟨(some 98), (.op (.bin .sub (.t 97) (.k (.int .i64 1)))), none⟩, ⟨(some 11), (.op (.mv (.t 98))), none⟩])
  (.seq (.block 4 (.loop (.block 5 (.seq (.block 6 (.loop (.seq (.seq (.dreg (.quiet ⟨(some 99), (.op (.mv (.t 10))), none⟩ (.quiet ⟨(some 100), (.op (.mv (.t 11))), none⟩ (.quiet ⟨(some 101), (.op (.bin .leq (.t 99) (.t 100))), none⟩ (.quiet ⟨(some 102), (.op (.mv (.t 101))), none⟩ (.quiet ⟨(some 103), (.op (.mv (.t 0))), (some (102, true))⟩ (.quiet ⟨(some 104), (.op (.mv (.t 10))), (some (102, true))⟩ (.quiet ⟨(some 105), (.op (.iaddrS 1 (.t 103) (.t 104))), (some (102, true))⟩ (.quiet ⟨(some 106), (.op (.load (.t 105))), (some (102, true))⟩ (.quiet ⟨(some 107), (.op (.mv (.t 0))), (some (102, true))⟩ (.quiet ⟨(some 108), (.op (.mv (.t 1))), (some (102, true))⟩ (.quiet ⟨(some 109), (.op (.iaddrS 1 (.t 107) (.t 108))), (some (102, true))⟩ (.quiet ⟨(some 110), (.op (.load (.t 109))), (some (102, true))⟩ (.loud ⟨(some 111), (.call (.f 162) [(.t 106), (.t 110)]), (some (102, true))⟩ [] (.quiet ⟨(some 112), (.op (.pick (.t 102) (.t 111) (.k (.bool false)))), none⟩ .nil)))))))))))))))
    (.cond (.t 112) .skip
    (.exit 6)))
    (.block 7 (.reg [⟨(some 113), (.op (.mv (.t 10))), none⟩, ⟨(some 114), (.op (.bin .add (.t 113) (.k (.int .i64 1)))), none⟩, ⟨(some 10), (.op (.mv (.t 114))), none⟩])))))
   (.seq (.block 8 (.loop (.seq (.seq (.dreg (.quiet ⟨(some 115), (.op (.mv (.t 10))), none⟩ (.quiet ⟨(some 116), (.op (.mv (.t 11))), none⟩ (.quiet ⟨(some 117), (.op (.bin .leq (.t 115) (.t 116))), none⟩ (.quiet ⟨(some 118), (.op (.mv (.t 117))), none⟩ (.quiet ⟨(some 119), (.op (.mv (.t 0))), (some (118, true))⟩ (.quiet ⟨(some 120), (.op (.mv (.t 11))), (some (118, true))⟩ (.quiet ⟨(some 121), (.op (.iaddrS 1 (.t 119) (.t 120))), (some (118, true))⟩ (.quiet ⟨(some 122), (.op (.load (.t 121))), (some (118, true))⟩ (.quiet ⟨(some 123), (.op (.mv (.t 0))), (some (118, true))⟩ (.quiet ⟨(some 124), (.op (.mv (.t 1))), (some (118, true))⟩ (.quiet ⟨(some 125), (.op (.iaddrS 1 (.t 123) (.t 124))), (some (118, true))⟩ (.quiet ⟨(some 126), (.op (.load (.t 125))), (some (118, true))⟩ (.loud ⟨(some 127), (.call (.f 162) [(.t 122), (.t 126)]), (some (118, true))⟩ [] (.quiet ⟨(some 128), (.op (.un .not (.t 127))), (some (118, true))⟩ (.quiet ⟨(some 129), (.op (.pick (.t 118) (.t 128) (.k (.bool false)))), none⟩ .nil))))))))))))))))
    (.cond (.t 129) .skip
    (.exit 8)))
    (.block 9 (.reg [⟨(some 130), (.op (.mv (.t 11))), none⟩, ⟨(some 131), (.op (.bin .sub (.t 130) (.k (.int .i64 1)))), none⟩, ⟨(some 11), (.op (.mv (.t 131))), none⟩])))))
   (.seq (.seq (.reg [⟨(some 132), (.op (.mv (.t 10))), none⟩, ⟨(some 133), (.op (.mv (.t 11))), none⟩, ⟨(some 134), (.op (.bin .gtr (.t 132) (.t 133))), none⟩])
   (.cond (.t 134) (.exit 4)
   .skip))
   (.seq (.dreg (.quiet ⟨(some 135), (.op (.mv (.t 0))), none⟩ (.quiet ⟨(some 136), (.op (.mv (.t 10))), none⟩ (.quiet ⟨(some 137), (.op (.mv (.t 0))), none⟩ (.quiet ⟨(some 138), (.op (.mv (.t 11))), none⟩ (.quiet ⟨(some 139), (.op (.mv (.t 0))), none⟩ (.quiet ⟨(some 140), (.op (.mv (.t 11))), none⟩ (.quiet ⟨(some 141), (.op (.iaddrS 1 (.t 139) (.t 140))), none⟩ (.quiet ⟨(some 142), (.op (.load (.t 141))), none⟩ (.quiet ⟨(some 143), (.op (.mv (.t 0))), none⟩ (.quiet ⟨(some 144), (.op (.mv (.t 10))), none⟩ (.quiet ⟨(some 145), (.op (.iaddrS 1 (.t 143) (.t 144))), none⟩ (.quiet ⟨(some 146), (.op (.load (.t 145))), none⟩ (.quiet ⟨(some 147), (.op (.iaddrS 1 (.t 135) (.t 136))), none⟩ (.loud ⟨none, (.op (.store 1 (.t 147) (.t 142))), none⟩ [] (.quiet ⟨(some 148), (.op (.iaddrS 1 (.t 137) (.t 138))), none⟩ (.loud ⟨none, (.op (.store 1 (.t 148) (.t 146))), none⟩ [] .nil)))))))))))))))))
   (.seq (.reg [⟨(some 149), (.op (.mv (.t 10))), none⟩, ⟨(some 150), (.op (.bin .add (.t 149) (.k (.int .i64 1)))), none⟩, ⟨(some 10), (.op (.mv (.t 150))), none⟩])
   (.reg [⟨(some 151), (.op (.mv (.t 11))), none⟩, ⟨(some 152), (.op (.bin .sub (.t 151) (.k (.int .i64 1)))), none⟩, ⟨(some 11), (.op (.mv (.t 152))), none⟩])))))))))
  (.seq (.dreg (.quiet ⟨(some 153), (.op (.mv (.t 0))), none⟩ (.quiet ⟨(some 154), (.op (.mv (.t 11))), none⟩ (.quiet ⟨(some 155), (.op (.mv (.t 0))), none⟩ (.quiet ⟨(some 156), (.op (.mv (.t 1))), none⟩ (.quiet ⟨(some 157), (.op (.mv (.t 0))), none⟩ (.quiet ⟨(some 158), (.op (.mv (.t 1))), none⟩ (.quiet ⟨(some 159), (.op (.iaddrS 1 (.t 157) (.t 158))), none⟩ (.quiet ⟨(some 160), (.op (.load (.t 159))), none⟩ (.quiet ⟨(some 161), (.op (.mv (.t 0))), none⟩ (.quiet ⟨(some 162), (.op (.mv (.t 11))), none⟩ (.quiet ⟨(some 163), (.op (.iaddrS 1 (.t 161) (.t 162))), none⟩ (.quiet ⟨(some 164), (.op (.load (.t 163))), none⟩ (.quiet ⟨(some 165), (.op (.iaddrS 1 (.t 153) (.t 154))), none⟩ (.loud ⟨none, (.op (.store 1 (.t 165) (.t 160))), none⟩ [] (.quiet ⟨(some 166), (.op (.iaddrS 1 (.t 155) (.t 156))), none⟩ (.loud ⟨none, (.op (.store 1 (.t 166) (.t 164))), none⟩ [] .nil)))))))))))))))))
  (.seq (.reg [⟨(some 167), (.op (.mv (.t 11))), none⟩, ⟨(some 8), (.op (.mv (.t 167))), none⟩, ⟨(some 9), (.op (.mv (.k (.bool false)))), none⟩])
  .ret))))))))))))
def a164 : AF := ⟨168, [(.t 8), (.t 9)], .code b164, none⟩
theorem ok164 : AFOk Tryz.prog ext 164 a164 := .of Tryz.func164 (by kernel_rfl) (by kernel_rfl) (by kernel_rfl) (by kernel_rfl)
/-! 165: math/bits.Len32 -/
def b165 : AC :=
  (.seq (.reg [⟨(some 2), (.op (.mv (.k (.int .i64 0)))), none⟩])
  (.seq (.seq (.reg [⟨(some 3), (.op (.mv (.t 0))), none⟩, ⟨(some 4), (.op (.bin .geq (.t 3) (.k (.int .u32 65536)))), none⟩])
  (.cond (.t 4) (.seq (.reg [⟨(some 5), (.op (.mv (.t 0))), none⟩, ⟨(some 6), (.op (.bin .shr (.t 5) (.k (.int .u64 16)))), none⟩, ⟨(some 0), (.op (.mv (.t 6))), none⟩])
  (.reg [⟨(some 2), (.op (.mv (.k (.int .i64 16)))), none⟩]))
  .skip))
  (.seq (.seq (.reg [⟨(some 7), (.op (.mv (.t 0))), none⟩, ⟨(some 8), (.op (.bin .geq (.t 7) (.k (.int .u32 256)))), none⟩])
  (.cond (.t 8) (.seq (.reg [⟨(some 9), (.op (.mv (.t 0))), none⟩, ⟨(some 10), (.op (.bin .shr (.t 9) (.k (.int .u64 8)))), none⟩, ⟨(some 0), (.op (.mv (.t 10))), none⟩])
  (.reg [⟨(some 11), (.op (.mv (.t 2))), none⟩, ⟨(some 12), (.op (.bin .add (.t 11) (.k (.int .i64 8)))), none⟩, ⟨(some 2), (.op (.mv (.t 12))), none⟩]))
  .skip))
  (.seq (.reg [⟨(some 13), (.op (.mv (.t 2))), none⟩, ⟨(some 14), (.op (.mv (.t 0))), none⟩, ⟨(some 15), (.op (.conv (.int .u8) (.t 14))), none⟩, ⟨(some 16), (.op (.indexS (.k (.string ⟨#[0, 1, 2, 2, 3, 3, 3, 3, 4, 4, 4, 4, 4, 4, 4, 4, 5, 5, 5, 5, 5, 5, 5, 5, 5, 5, 5, 5, 5, 5, 5, 5, 6, 6, 6, 6, 6, 6, 6, 6, 6, 6, 6, 6, 6, 6, 6, 6, 6, 6, 6, 6, 6, 6, 6, 6, 6, 6, 6, 6, 6, 6, 6, 6, 7, 7, 7, 7, 7, 7, 7, 7, 7, 7, 7, 7, 7, 7, 7, 7, 7, 7, 7, 7, 7, 7, 7, 7, 7, 7, 7, 7, 7, 7, 7, 7, 7, 7, 7, 7, 7, 7, 7, 7, 7, 7, 7, 7, 7, 7, 7, 7, 7, 7, 7, 7, 7, 7, 7, 7, 7, 7, 7, 7, 7, 7, 7, 7, 8, 8, 8, 8, 8, 8, 8, 8, 8, 8, 8, 8, 8, 8, 8, 8, 8, 8, 8, 8, 8, 8, 8, 8, 8, 8, 8, 8, 8, 8, 8, 8, 8, 8, 8, 8, 8, 8, 8, 8, 8, 8, 8, 8, 8, 8, 8, 8, 8, 8, 8, 8, 8, 8, 8, 8, 8, 8, 8, 8, 8, 8, 8, 8, 8, 8, 8, 8, 8, 8, 8, 8, 8, 8, 8, 8, 8, 8, 8, 8, 8, 8, 8, 8, 8, 8, 8, 8, 8, 8, 8, 8, 8, 8, 8, 8, 8, 8, 8, 8, 8, 8, 8, 8, 8, 8, 8, 8, 8, 8, 8, 8, 8, 8, 8, 8, 8, 8, 8, 8, 8, 8, 8, 8, 8, 8, 8, 8]⟩)) (.t 15))), none⟩, ⟨(some 17), (.op (.conv (.int .i64) (.t 16))), none⟩, ⟨(some 18), (.op (.bin .add (.t 13) (.t 17))), none⟩, ⟨(some 2), (.op (.mv (.t 18))), none⟩])
  .ret))))
def a165 : AF := ⟨19, [(.t 2)], .code b165, none⟩
theorem ok165 : AFOk Tryz.prog ext 165 a165 := .of Tryz.func165 (by kernel_rfl) (by kernel_rfl) (by kernel_rfl) (by kernel_rfl)
/-! 166: math/bits.Len64 -/
def b166 : AC :=
  (.seq (.reg [⟨(some 2), (.op (.mv (.k (.int .i64 0)))), none⟩])
  (.seq (.seq (.reg [⟨(some 3), (.op (.mv (.t 0))), none⟩, ⟨(some 4), (.op (.bin .geq (.t 3) (.k (.int .u64 4294967296)))), none⟩])
  (.cond (.t 4) (.seq (.reg [⟨(some 5), (.op (.mv (.t 0))), none⟩, ⟨(some 6), (.op (.bin .shr (.t 5) (.k (.int .u64 32)))), none⟩, ⟨(some 0), (.op (.mv (.t 6))), none⟩])
  (.reg [⟨(some 2), (.op (.mv (.k (.int .i64 32)))), none⟩]))
  .skip))
  (.seq (.seq (.reg [⟨(some 7), (.op (.mv (.t 0))), none⟩, ⟨(some 8), (.op (.bin .geq (.t 7) (.k (.int .u64 65536)))), none⟩])
  (.cond (.t 8) (.seq (.reg [⟨(some 9), (.op (.mv (.t 0))), none⟩, ⟨(some 10), (.op (.bin .shr (.t 9) (.k (.int .u64 16)))), none⟩, ⟨(some 0), (.op (.mv (.t 10))), none⟩])
  (.reg [⟨(some 11), (.op (.mv (.t 2))), none⟩, ⟨(some 12), (.op (.bin .add (.t 11) (.k (.int .i64 16)))), none⟩, ⟨(some 2), (.op (.mv (.t 12))), none⟩]))
  .skip))
  (.seq (.seq (.reg [⟨(some 13), (.op (.mv (.t 0))), none⟩, ⟨(some 14), (.op (.bin .geq (.t 13) (.k (.int .u64 256)))), none⟩])
  (.cond (.t 14) (.seq (.reg [⟨(some 15), (.op (.mv (.t 0))), none⟩, ⟨(some 16), (.op (.bin .shr (.t 15) (.k (.int .u64 8)))), none⟩, ⟨(some 0), (.op (.mv (.t 16))), none⟩])
  (.reg [⟨(some 17), (.op (.mv (.t 2))), none⟩, ⟨(some 18), (.op (.bin .add (.t 17) (.k (.int .i64 8)))), none⟩, ⟨(some 2), (.op (.mv (.t 18))), none⟩]))
  .skip))
  (.seq (.reg [⟨(some 19), (.op (.mv (.t 2))), none⟩, ⟨(some 20), (.op (.mv (.t 0))), none⟩, ⟨(some 21), (.op (.conv (.int .u8) (.t 20))), none⟩, ⟨(some 22), (.op (.indexS (.k (.string ⟨#[0, 1, 2, 2, 3, 3, 3, 3, 4, 4, 4, 4, 4, 4, 4, 4, 5, 5, 5, 5, 5, 5, 5, 5, 5, 5, 5, 5, 5, 5, 5, 5, 6, 6, 6, 6, 6, 6, 6, 6, 6, 6, 6, 6, 6, 6, 6, 6, 6, 6, 6, 6, 6, 6, 6, 6, 6, 6, 6, 6, 6, 6, 6, 6, 7, 7, 7, 7, 7, 7, 7, 7, 7, 7, 7, 7, 7, 7, 7, 7, 7, 7, 7, 7, 7, 7, 7, 7, 7, 7, 7, 7, 7, 7, 7, 7, 7, 7, 7, 7, 7, 7, 7, 7, 7, 7, 7, 7, 7, 7, 7, 7, 7, 7, 7, 7, 7, 7, 7, 7, 7, 7, 7, 7, 7, 7, 7, 7, 8, 8, 8, 8, 8, 8, 8, 8, 8, 8, 8, 8, 8, 8, 8, 8, 8, 8, 8, 8, 8, 8, 8, 8, 8, 8, 8, 8, 8, 8, 8, 8, 8, 8, 8, 8, 8, 8, 8, 8, 8, 8, 8, 8, 8, 8, 8, 8, 8, 8, 8, 8, 8, 8, 8, 8, 8, 8, 8, 8, 8, 8, 8, 8, 8, 8, 8, 8, 8, 8, 8, 8, 8, 8, 8, 8, 8, 8, 8, 8, 8, 8, 8, 8, 8, 8, 8, 8, 8, 8, 8, 8, 8, 8, 8, 8, 8, 8, 8, 8, 8, 8, 8, 8, 8, 8, 8, 8, 8, 8, 8, 8, 8, 8, 8, 8, 8, 8, 8, 8, 8, 8, 8, 8, 8, 8, 8, 8]⟩)) (.t 21))), none⟩, ⟨(some 23), (.op (.conv (.int .i64) (.t 22))), none⟩, ⟨(some 24), (.op (.bin .add (.t 19) (.t 23))), none⟩, ⟨(some 2), (.op (.mv (.t 24))), none⟩])
  .ret)))))
def a166 : AF := ⟨25, [(.t 2)], .code b166, none⟩
theorem ok166 : AFOk Tryz.prog ext 166 a166 := .of Tryz.func166 (by kernel_rfl) (by kernel_rfl) (by kernel_rfl) (by kernel_rfl)
/-! 175: (*rowlock/rowlockref06.Set).Add -/
def b175 : AC :=
  (.seq (.reg [⟨(some 3), (.op (.box 155 (.t 1))), none⟩, ⟨(some 4), (.op (.mv (.k (.int .i64 0)))), none⟩])
  (.seq (.block 0 (.seq (.reg [⟨(some 8), (.op (.mv (.t 0))), none⟩, ⟨(some 9), (.op (.eq false .ptr (.t 8) (.k (.pointer none)))), none⟩, ⟨(some 7), (.op (.mv (.t 9))), none⟩])
  (.cond (.t 7) (.seq (.reg [⟨(some 4), (.op (.mv (.k (.int .i64 1)))), none⟩])
  .ret)
  (.seq (.reg [⟨(some 11), (.op (.faddr 0 (.t 3))), none⟩, ⟨(some 12), (.op (.load (.t 11))), none⟩, ⟨(some 13), (.op (.bin .lss (.t 12) (.k (.int .i64 0)))), none⟩, ⟨(some 14), (.op (.mv (.t 13))), none⟩, ⟨(some 15), (.op (.faddr 0 (.t 3))), (some (14, false))⟩, ⟨(some 16), (.op (.load (.t 15))), (some (14, false))⟩, ⟨(some 17), (.op (.bin .geq (.t 16) (.k (.int .i64 12)))), (some (14, false))⟩, ⟨(some 18), (.op (.pick (.t 14) (.k (.bool true)) (.t 17))), none⟩, ⟨(some 19), (.op (.mv (.t 18))), none⟩, ⟨(some 20), (.op (.faddr 2 (.t 3))), (some (19, false))⟩, ⟨(some 21), (.op (.load (.t 20))), (some (19, false))⟩, ⟨(some 22), (.op (.bin .gtr (.t 21) (.k (.int .u64 1099511627776)))), (some (19, false))⟩, ⟨(some 23), (.op (.pick (.t 19) (.k (.bool true)) (.t 22))), none⟩, ⟨(some 10), (.op (.mv (.t 23))), none⟩])
  (.cond (.t 10) (.seq (.reg [⟨(some 4), (.op (.mv (.k (.int .i64 2)))), none⟩])
  .ret)
  (.seq (.reg [⟨(some 25), (.op (.faddr 1 (.t 3))), none⟩, ⟨(some 26), (.op (.load (.t 25))), none⟩, ⟨(some 27), (.call (.f 98) [(.t 26)]), none⟩, ⟨(some 28), (.op (.un .not (.t 27))), none⟩, ⟨(some 24), (.op (.mv (.t 28))), none⟩])
  (.cond (.t 24) (.seq (.reg [⟨(some 4), (.op (.mv (.k (.int .i64 3)))), none⟩])
  .ret)
  .skip)))))))
  (.seq (.seq (.reg [⟨(some 30), (.op (.mv (.t 0))), none⟩, ⟨(some 31), (.op (.faddr 0 (.t 3))), none⟩, ⟨(some 32), (.op (.load (.t 31))), none⟩, ⟨(some 33), (.call (.f 204) [(.t 30), (.t 32)]), none⟩, ⟨(some 29), (.op (.mv (.t 33))), none⟩, ⟨(some 34), (.op (.extract (.t 29) 0)), none⟩, ⟨(some 35), (.op (.extract (.t 29) 1)), none⟩, ⟨(some 5), (.op (.alloc 155 [(.int .i64 0), (.int .u64 0), (.int .u64 0)])), none⟩, ⟨none, (.op (.store 3 (.t 5) (.t 34))), none⟩, ⟨(some 6), (.op (.mv (.t 35))), none⟩])
  (.seq (.reg [⟨(some 36), (.op (.mv (.t 6))), none⟩])
  (.cond (.t 36) (.seq (.reg [⟨(some 4), (.op (.mv (.k (.int .i64 0)))), none⟩])
  .ret)
  .skip)))
  (.seq (.seq (.reg [⟨(some 37), (.op (.mv (.t 0))), none⟩, ⟨(some 38), (.op (.nilchk (.t 37))), none⟩, ⟨(some 39), (.op (.faddr 0 (.t 38))), none⟩, ⟨(some 40), (.op (.load (.t 39))), none⟩, ⟨(some 41), (.op (.lenS (.t 40))), none⟩, ⟨(some 42), (.op (.bin .geq (.t 41) (.k (.int .i64 8)))), none⟩])
  (.cond (.t 42) (.seq (.reg [⟨(some 4), (.op (.mv (.k (.int .i64 4)))), none⟩])
  .ret)
  .skip))
  (.seq (.dreg (.quiet ⟨(some 43), (.op (.mv (.t 0))), none⟩ (.quiet ⟨(some 45), (.op (.mv (.t 0))), none⟩ (.quiet ⟨(some 46), (.op (.nilchk (.t 45))), none⟩ (.quiet ⟨(some 47), (.op (.faddr 0 (.t 46))), none⟩ (.quiet ⟨(some 48), (.op (.load (.t 47))), none⟩ (.quiet ⟨(some 50), (.op (.loadN 3 (.t 3))), none⟩ (.both (.loud ⟨(some 44), (.op (.bslice 155 [] 0 [])), none⟩ [⟨(some 50), (.op (.loadN 3 (.t 3))), none⟩, ⟨(some 48), (.op (.load (.t 47))), none⟩] (.both (.loud ⟨(some 49), (.op (.append 155 3 24 (.t 44) (.t 48))), none⟩ [⟨(some 50), (.op (.loadN 3 (.t 3))), none⟩] (.loud ⟨(some 51), (.op (.bslice 155 [(.int .i64 0), (.int .u64 0), (.int .u64 0)] 1 [(0, 3, (.t 50))])), none⟩ [⟨(some 48), (.op (.load (.t 47))), none⟩] (.loud ⟨(some 52), (.op (.append 155 3 24 (.t 49) (.t 51))), none⟩ [] (.quiet ⟨(some 53), (.op (.nilchk (.t 43))), none⟩ (.quiet ⟨(some 54), (.op (.faddr 0 (.t 53))), none⟩ (.loud ⟨none, (.op (.store 1 (.t 54) (.t 52))), none⟩ [] .nil))))))
    (.loud ⟨(some 51), (.op (.bslice 155 [(.int .i64 0), (.int .u64 0), (.int .u64 0)] 1 [(0, 3, (.t 50))])), none⟩ [⟨(some 48), (.op (.load (.t 47))), none⟩] (.loud ⟨(some 49), (.op (.append 155 3 24 (.t 44) (.t 48))), none⟩ [⟨(some 50), (.op (.loadN 3 (.t 3))), none⟩] (.loud ⟨(some 52), (.op (.append 155 3 24 (.t 49) (.t 51))), none⟩ [] (.quiet ⟨(some 53), (.op (.nilchk (.t 43))), none⟩ (.quiet ⟨(some 54), (.op (.faddr 0 (.t 53))), none⟩ (.loud ⟨none, (.op (.store 1 (.t 54) (.t 52))), none⟩ [] .nil))))))))
    (.loud ⟨(some 51), (.op (.bslice 155 [(.int .i64 0), (.int .u64 0), (.int .u64 0)] 1 [(0, 3, (.t 50))])), none⟩ [⟨(some 48), (.op (.load (.t 47))), none⟩] (.loud ⟨(some 44), (.op (.bslice 155 [] 0 [])), none⟩ [⟨(some 50), (.op (.loadN 3 (.t 3))), none⟩, ⟨(some 48), (.op (.load (.t 47))), none⟩] (.loud ⟨(some 49), (.op (.append 155 3 24 (.t 44) (.t 48))), none⟩ [⟨(some 50), (.op (.loadN 3 (.t 3))), none⟩] (.loud ⟨(some 52), (.op (.append 155 3 24 (.t 49) (.t 51))), none⟩ [] (.quiet ⟨(some 53), (.op (.nilchk (.t 43))), none⟩ (.quiet ⟨(some 54), (.op (.faddr 0 (.t 53))), none⟩ (.loud ⟨none, (.op (.store 1 (.t 54) (.t 52))), none⟩ [] .nil)))))))))))))))
  (.seq (.reg [⟨(some 4), (.op (.mv (.k (.int .i64 0)))), none⟩])
  .ret))))))
def a175 : AF := ⟨55, [(.t 4)], .code b175, none⟩
theorem ok175 : AFOk Tryz.prog ext 175 a175 := .of Tryz.func175 (by kernel_rfl) (by kernel_rfl) (by kernel_rfl) (by kernel_rfl)
/-! 183: rowlock/seqlock.attempt$1 -/
def b183 : AC :=
  (.seq (.reg [])
  (.block 0 (.seq (.reg [⟨(some 6), (.op (.ifnil false (.t 4))), none⟩])
  (.cond (.t 6) (.reg [⟨(some 1), (.op (.mv (.t 4))), none⟩])
  (.seq (.reg [⟨(some 7), (.op (.tassert 218 (.agg #[(.int .i64 0)]) (.t 4))), none⟩, ⟨(some 8), (.op (.extract (.t 7) 1)), none⟩, ⟨(some 9), (.op (.extract (.t 7) 0)), none⟩])
  (.cond (.t 8) (.seq (.reg [⟨(some 2), (.op (.alloc 218 [(.int .i64 0)])), none⟩, ⟨none, (.op (.store 1 (.t 2) (.t 9))), none⟩])
  (.reg [⟨(some 10), (.op (.faddr 0 (.t 2))), none⟩, ⟨(some 11), (.op (.load (.t 10))), none⟩, ⟨none, (.op (.store 1 (.t 0) (.t 11))), none⟩]))
  (.seq (.reg [⟨(some 3), (.op (.mv (.t 4))), none⟩])
  (.reg [⟨(some 5), (.op (.mv (.t 3))), none⟩, ⟨none, (.panic (.t 5)), none⟩]))))))))
def a183 : AF := ⟨12, [], .code b183, some 4⟩
theorem ok183 : AFOk Tryz.prog ext 183 a183 := .of Tryz.func183 (by kernel_rfl) (by kernel_rfl) (by kernel_rfl) (by kernel_rfl)
/-! 184: rowlock/value.Canon -/
def b184 : AC :=
  (.seq (.reg [⟨(some 2), (.op (.mv (.k (.int .u64 0)))), none⟩])
  (.seq (.seq (.reg [⟨(some 3), (.op (.mv (.t 0))), none⟩, ⟨(some 4), (.call (.f 96) [(.t 3)]), none⟩])
  (.cond (.t 4) (.seq (.reg [⟨(some 5), (.op (.mv (.t 0))), none⟩, ⟨(some 2), (.op (.mv (.t 5))), none⟩])
  .ret)
  .skip))
  (.seq (.reg [⟨(some 2), (.op (.mv (.k (.int .u64 9221120237041090560)))), none⟩])
  .ret)))
def a184 : AF := ⟨6, [(.t 2)], .code b184, none⟩
theorem ok184 : AFOk Tryz.prog ext 184 a184 := .of Tryz.func184 (by kernel_rfl) (by kernel_rfl) (by kernel_rfl) (by kernel_rfl)
/-! 185: (*rowlock/seqlock.Lock).free -/
def b185 : AC :=
  (.seq (.reg [⟨(some 3), (.op (.box 85 (.t 0))), none⟩, ⟨(some 4), (.op (.box 3 (.t 1))), none⟩, ⟨(some 5), (.op (.box 223 (.t 2))), none⟩, ⟨(some 6), (.op (.mv (.k (.int .i64 0)))), none⟩])
  (.seq (.reg [⟨(some 7), (.op (.mkfunc 207 [] [(.t 3), (.t 4), (.t 5)])), none⟩, ⟨(some 8), (.call (.f 128) [(.t 7)]), none⟩, ⟨(some 6), (.op (.mv (.t 8))), none⟩])
  .ret))
def a185 : AF := ⟨9, [(.t 6)], .code b185, none⟩
theorem ok185 : AFOk Tryz.prog ext 185 a185 := .of Tryz.func185 (by kernel_rfl) (by kernel_rfl) (by kernel_rfl) (by kernel_rfl)
/-! 186: (*rowlock/seqlock.Lock).Break$1 -/
def b186 : AC :=
  (.seq (.reg [⟨(some 2), (.op (.mv (.k (.int .u64 0)))), none⟩])
  (.seq (.reg [⟨(some 3), (.op (.mv (.t 0))), none⟩, ⟨(some 4), (.op (.bin .sub (.t 3) (.k (.int .u64 1)))), none⟩, ⟨(some 2), (.op (.mv (.t 4))), none⟩])
  .ret))
def a186 : AF := ⟨5, [(.t 2)], .code b186, none⟩
theorem ok186 : AFOk Tryz.prog ext 186 a186 := .of Tryz.func186 (by kernel_rfl) (by kernel_rfl) (by kernel_rfl) (by kernel_rfl)
/-! 187: (*rowlock/seqlock.Lock).Try$1 -/
def b187 : AC :=
  (.seq (.reg [⟨(some 3), (.op (.load (.t 0))), none⟩, ⟨(some 4), (.op (.eq true .ptr (.t 3) (.k (.pointer none)))), none⟩, ⟨(some 5), (.call (.f 130) [(.t 4), (.k (.int .i64 1))]), none⟩])
  (.seq (.reg [⟨(some 6), (.op (.load (.t 1))), none⟩, ⟨(some 7), (.op (.bin .geq (.t 6) (.k (.int .i64 0)))), none⟩, ⟨(some 8), (.op (.mv (.t 7))), none⟩, ⟨(some 9), (.op (.load (.t 1))), (some (8, true))⟩, ⟨(some 10), (.op (.bin .lss (.t 9) (.k (.int .i64 4)))), (some (8, true))⟩, ⟨(some 11), (.op (.pick (.t 8) (.t 10) (.k (.bool false)))), none⟩, ⟨(some 12), (.call (.f 130) [(.t 11), (.k (.int .i64 2))]), none⟩])
  (.seq (.reg [⟨(some 13), (.op (.load (.t 0))), none⟩, ⟨(some 14), (.op (.nilchk (.t 13))), none⟩, ⟨(some 15), (.op (.faddr 0 (.t 14))), none⟩, ⟨(some 16), (.op (.load (.t 15))), none⟩, ⟨(some 17), (.op (.eq false .ptr (.t 16) (.k (.pointer none)))), none⟩, ⟨(some 18), (.call (.f 130) [(.t 17), (.k (.int .i64 7))]), none⟩])
  (.seq (.dreg (.quiet ⟨(some 19), (.op (.load (.t 0))), none⟩ (.quiet ⟨(some 20), (.op (.nilchk (.t 19))), none⟩ (.quiet ⟨(some 21), (.op (.faddr 1 (.t 20))), none⟩ (.quiet ⟨(some 22), (.op (.load (.t 21))), none⟩ (.quiet ⟨(some 23), (.op (.load (.t 2))), none⟩ (.quiet ⟨(some 24), (.op (.bin .eql (.t 22) (.t 23))), none⟩ (.loud ⟨(some 25), (.call (.f 130) [(.t 24), (.k (.int .i64 8))]), none⟩ [] .nil))))))))
  (.seq (.reg [⟨(some 26), (.op (.load (.t 0))), none⟩, ⟨(some 27), (.op (.nilchk (.t 26))), none⟩, ⟨(some 28), (.op (.faddr 1 (.t 27))), none⟩, ⟨(some 29), (.op (.load (.t 28))), none⟩, ⟨(some 30), (.op (.bin .lss (.t 29) (.k (.int .u64 1099511627775)))), none⟩, ⟨(some 31), (.call (.f 130) [(.t 30), (.k (.int .i64 4))]), none⟩])
  (.seq (.reg [⟨(some 32), (.op (.load (.t 0))), none⟩, ⟨(some 33), (.op (.nilchk (.t 32))), none⟩, ⟨(some 34), (.op (.faddr 0 (.t 33))), none⟩, ⟨none, (.op (.store 1 (.t 34) (.t 1))), none⟩])
  (.reg [⟨(some 35), (.op (.load (.t 0))), none⟩, ⟨(some 36), (.op (.nilchk (.t 35))), none⟩, ⟨(some 37), (.op (.faddr 1 (.t 36))), none⟩, ⟨(some 38), (.op (.load (.t 37))), none⟩, ⟨(some 39), (.op (.bin .add (.t 38) (.k (.int .u64 1)))), none⟩, ⟨(some 40), (.op (.nilchk (.t 35))), none⟩, ⟨(some 41), (.op (.faddr 1 (.t 40))), none⟩, ⟨none, (.op (.store 1 (.t 41) (.t 39))), none⟩])))))))
def a187 : AF := ⟨42, [], .code b187, none⟩
theorem ok187 : AFOk Tryz.prog ext 187 a187 := .of Tryz.func187 (by kernel_rfl) (by kernel_rfl) (by kernel_rfl) (by kernel_rfl)
/-! 188: (*rowlock/seqlock.Lock).Unlock$1 -/
def b188 : AC :=
  (.seq (.reg [⟨(some 2), (.op (.mv (.k (.int .u64 0)))), none⟩])
  (.seq (.reg [⟨(some 3), (.op (.mv (.t 0))), none⟩, ⟨(some 4), (.op (.bin .add (.t 3) (.k (.int .u64 1)))), none⟩, ⟨(some 2), (.op (.mv (.t 4))), none⟩])
  .ret))
def a188 : AF := ⟨5, [(.t 2)], .code b188, none⟩
theorem ok188 : AFOk Tryz.prog ext 188 a188 := .of Tryz.func188 (by kernel_rfl) (by kernel_rfl) (by kernel_rfl) (by kernel_rfl)
/-! 189: (*rowlock/writes.stack[rowlock/writes.frame]).all$1 -/
def b189 : AC :=
  (.block 0 (.loop (.seq (.seq (.reg [⟨(some 3), (.op (.load (.t 1))), none⟩, ⟨(some 4), (.op (.eq true .ptr (.t 3) (.k (.pointer none)))), none⟩])
   (.cond (.t 4) .skip
   (.exit 0)))
   (.seq (.block 1 (.seq (.reg [⟨(some 9), (.op (.mv (.t 0))), none⟩, ⟨(some 10), (.op (.load (.t 1))), none⟩, ⟨(some 11), (.op (.nilchk (.t 10))), none⟩, ⟨(some 12), (.op (.faddr 0 (.t 11))), none⟩, ⟨(some 13), (.op (.load (.t 12))), none⟩, ⟨(some 14), (.call (.t 9) [(.t 13)]), none⟩, ⟨(some 15), (.op (.un .not (.t 14))), none⟩])
   (.cond (.t 15) .ret
   .skip)))
   (.reg [⟨(some 5), (.op (.load (.t 1))), none⟩, ⟨(some 6), (.op (.nilchk (.t 5))), none⟩, ⟨(some 7), (.op (.faddr 1 (.t 6))), none⟩, ⟨(some 8), (.op (.load (.t 7))), none⟩, ⟨none, (.op (.store 1 (.t 1) (.t 8))), none⟩])))))
def a189 : AF := ⟨16, [], .code b189, none⟩
theorem ok189 : AFOk Tryz.prog ext 189 a189 := .of Tryz.func189 (by kernel_rfl) (by kernel_rfl) (by kernel_rfl) (by kernel_rfl)
/-! 190: (*rowlock/writes.Log).pop -/
def b190 : AC :=
  (.seq (.reg [⟨(some 2), (.op (.mv (.k (.slice none 0 0)))), none⟩, ⟨(some 3), (.op (.mv (.k (.int .i64 0)))), none⟩])
  (.seq (.block 0 (.seq (.reg [⟨(some 6), (.op (.mv (.t 0))), none⟩, ⟨(some 7), (.op (.eq false .ptr (.t 6) (.k (.pointer none)))), none⟩, ⟨(some 5), (.op (.mv (.t 7))), none⟩])
  (.cond (.t 5) (.seq (.reg [⟨(some 2), (.op (.mv (.k (.slice none 0 0)))), none⟩, ⟨(some 3), (.op (.mv (.k (.int .i64 1)))), none⟩])
  .ret)
  (.seq (.reg [⟨(some 9), (.op (.mv (.t 0))), none⟩, ⟨(some 10), (.op (.nilchk (.t 9))), none⟩, ⟨(some 11), (.op (.faddr 1 (.t 10))), none⟩, ⟨(some 12), (.op (.load (.t 11))), none⟩, ⟨(some 13), (.op (.bin .eql (.t 12) (.k (.int .i64 0)))), none⟩, ⟨(some 8), (.op (.mv (.t 13))), none⟩])
  (.cond (.t 8) (.seq (.reg [⟨(some 2), (.op (.mv (.k (.slice none 0 0)))), none⟩, ⟨(some 3), (.op (.mv (.k (.int .i64 8)))), none⟩])
  .ret)
  .skip)))))
  (.seq (.reg [⟨(some 14), (.op (.mv (.t 0))), none⟩, ⟨(some 15), (.op (.nilchk (.t 14))), none⟩, ⟨(some 16), (.op (.faddr 0 (.t 15))), none⟩, ⟨(some 17), (.op (.load (.t 16))), none⟩, ⟨(some 18), (.op (.nilchk (.t 17))), none⟩, ⟨(some 19), (.op (.faddr 0 (.t 18))), none⟩, ⟨(some 20), (.op (.load (.t 19))), none⟩, ⟨(some 4), (.op (.mv (.t 20))), none⟩])
  (.seq (.reg [⟨(some 21), (.op (.mv (.t 0))), none⟩, ⟨(some 22), (.op (.mv (.t 0))), none⟩, ⟨(some 23), (.op (.nilchk (.t 22))), none⟩, ⟨(some 24), (.op (.faddr 0 (.t 23))), none⟩, ⟨(some 25), (.op (.load (.t 24))), none⟩, ⟨(some 26), (.op (.nilchk (.t 25))), none⟩, ⟨(some 27), (.op (.faddr 1 (.t 26))), none⟩, ⟨(some 28), (.op (.load (.t 27))), none⟩, ⟨(some 29), (.op (.nilchk (.t 21))), none⟩, ⟨(some 30), (.op (.faddr 0 (.t 29))), none⟩, ⟨none, (.op (.store 1 (.t 30) (.t 28))), none⟩])
  (.seq (.reg [⟨(some 31), (.op (.mv (.t 0))), none⟩, ⟨(some 32), (.op (.nilchk (.t 31))), none⟩, ⟨(some 33), (.op (.faddr 1 (.t 32))), none⟩, ⟨(some 34), (.op (.load (.t 33))), none⟩, ⟨(some 35), (.op (.bin .sub (.t 34) (.k (.int .i64 1)))), none⟩, ⟨(some 36), (.op (.nilchk (.t 31))), none⟩, ⟨(some 37), (.op (.faddr 1 (.t 36))), none⟩, ⟨none, (.op (.store 1 (.t 37) (.t 35))), none⟩])
  (.seq (.reg [⟨(some 38), (.op (.mv (.t 4))), none⟩, ⟨(some 2), (.op (.mv (.t 38))), none⟩, ⟨(some 3), (.op (.mv (.k (.int .i64 0)))), none⟩])
  .ret))))))
def a190 : AF := ⟨39, [(.t 2), (.t 3)], .code b190, none⟩
theorem ok190 : AFOk Tryz.prog ext 190 a190 := .of Tryz.func190 (by kernel_rfl) (by kernel_rfl) (by kernel_rfl) (by kernel_rfl)
/-! 191: (rowlock/writes.frame).put -/
def b191 : AC :=
  (.seq (.reg [⟨(some 3), (.op (.box 157 (.t 1))), none⟩, ⟨(some 4), (.op (.mv (.k (.slice none 0 0)))), none⟩])
  (.seq (.reg [⟨(some 7), (.op (.mv (.t 0))), none⟩, ⟨(some 8), (.call (.f 208) [(.t 7)]), none⟩, ⟨(some 5), (.op (.mv (.t 8))), none⟩])
  (.seq (.seq (.reg [⟨(some 9), (.op (.mv (.t 5))), none⟩, ⟨(some 10), (.op (.lenS (.t 9))), none⟩, ⟨(some 11), (.op (.mv (.k (.int .i64 0)))), none⟩])
  (.block 0 (.loop (.seq (.reg [⟨(some 12), (.op (.bin .lss (.t 11) (.t 10))), none⟩])
   (.seq (.cond (.t 12) .skip
   (.exit 0))
   (.seq (.block 1 (.seq (.reg [⟨(some 13), (.op (.mv (.t 11))), none⟩, ⟨(some 6), (.op (.mv (.t 13))), none⟩])
   (.seq (.dreg (.quiet ⟨(some 14), (.op (.mv (.t 5))), none⟩ (.quiet ⟨(some 15), (.op (.mv (.t 6))), none⟩ (.quiet ⟨(some 16), (.op (.iaddrS 2 (.t 14) (.t 15))), none⟩ (.quiet ⟨(some 17), (.op (.faddr 0 (.t 16))), none⟩ (.quiet ⟨(some 18), (.op (.load (.t 17))), none⟩ (.quiet ⟨(some 19), (.op (.faddr 0 (.t 3))), none⟩ (.quiet ⟨(some 20), (.op (.load (.t 19))), none⟩ (.quiet ⟨(some 21), (.op (.bin .eql (.t 18) (.t 20))), none⟩ .nil)))))))))
   (.cond (.t 21) (.seq (.reg [⟨(some 22), (.op (.mv (.t 5))), none⟩, ⟨(some 23), (.op (.mv (.t 6))), none⟩, ⟨(some 24), (.op (.faddr 1 (.t 3))), none⟩, ⟨(some 25), (.op (.load (.t 24))), none⟩, ⟨(some 26), (.op (.iaddrS 2 (.t 22) (.t 23))), none⟩, ⟨(some 27), (.op (.faddr 1 (.t 26))), none⟩, ⟨none, (.op (.store 1 (.t 27) (.t 25))), none⟩])
   (.seq (.reg [⟨(some 28), (.op (.mv (.t 5))), none⟩, ⟨(some 4), (.op (.mv (.t 28))), none⟩])
   .ret))
   .skip))))
   (.reg [⟨(some 29), (.op (.bin .add (.t 11) (.k (.int .i64 1)))), none⟩, ⟨(some 11), (.op (.mv (.t 29))), none⟩])))))))
  (.seq (.reg [⟨(some 30), (.op (.mv (.t 5))), none⟩, ⟨(some 31), (.op (.loadN 2 (.t 3))), none⟩, ⟨(some 32), (.op (.bslice 157 [(.int .i64 0), (.int .u64 0)] 1 [(0, 2, (.t 31))])), none⟩, ⟨(some 33), (.op (.append 157 2 16 (.t 30) (.t 32))), none⟩, ⟨(some 4), (.op (.mv (.t 33))), none⟩])
  .ret))))
def a191 : AF := ⟨34, [(.t 4)], .code b191, none⟩
theorem ok191 : AFOk Tryz.prog ext 191 a191 := .of Tryz.func191 (by kernel_rfl) (by kernel_rfl) (by kernel_rfl) (by kernel_rfl)
/-! 192: (*rowlock/writes.Log).Len -/
def b192 : AC :=
  (.seq (.reg [⟨(some 2), (.op (.mv (.k (.int .i64 0)))), none⟩])
  (.seq (.seq (.reg [⟨(some 5), (.op (.mv (.t 0))), none⟩, ⟨(some 6), (.op (.eq false .ptr (.t 5) (.k (.pointer none)))), none⟩])
  (.cond (.t 6) (.seq (.reg [⟨(some 2), (.op (.mv (.k (.int .i64 0)))), none⟩])
  .ret)
  .skip))
  (.seq (.reg [⟨(some 3), (.op (.alloc 3 [(.int .i64 0)])), none⟩, ⟨none, (.op (.store 1 (.t 3) (.k (.int .i64 0)))), none⟩])
  (.seq (.seq (.reg [⟨(some 7), (.op (.mv (.t 0))), none⟩, ⟨(some 8), (.op (.nilchk (.t 7))), none⟩, ⟨(some 9), (.op (.faddr 0 (.t 8))), none⟩, ⟨(some 10), (.op (.load (.t 9))), none⟩, ⟨(some 11), (.call (.f 140) [(.t 10)]), none⟩])
  (.block 0 (.rfunc (.t 11) [12] (.reg [⟨(some 4), (.op (.mv (.t 12))), none⟩])
   (.block 1 (.reg [⟨(some 13), (.op (.load (.t 3))), none⟩, ⟨(some 14), (.op (.mv (.t 4))), none⟩, ⟨(some 15), (.op (.lenS (.t 14))), none⟩, ⟨(some 16), (.op (.bin .add (.t 13) (.t 15))), none⟩, ⟨none, (.op (.store 1 (.t 3) (.t 16))), none⟩])))))
  (.seq (.reg [⟨(some 17), (.op (.load (.t 3))), none⟩, ⟨(some 2), (.op (.mv (.t 17))), none⟩])
  .ret)))))
def a192 : AF := ⟨18, [(.t 2)], .code b192, none⟩
theorem ok192 : AFOk Tryz.prog ext 192 a192 := .of Tryz.func192 (by kernel_rfl) (by kernel_rfl) (by kernel_rfl) (by kernel_rfl)
/-! 196: slices.siftDownOrdered[int] -/
def b196 : AC :=
  (.seq (.reg [⟨(some 10), (.op (.mv (.t 1))), none⟩, ⟨(some 8), (.op (.mv (.t 10))), none⟩])
  (.block 0 (.loop (.block 1 (.seq (.reg [⟨(some 11), (.op (.mv (.t 8))), none⟩, ⟨(some 12), (.op (.bin .mul (.k (.int .i64 2)) (.t 11))), none⟩, ⟨(some 13), (.op (.bin .add (.t 12) (.k (.int .i64 1)))), none⟩, ⟨(some 9), (.op (.mv (.t 13))), none⟩])
   (.seq (.seq (.reg [⟨(some 14), (.op (.mv (.t 9))), none⟩, ⟨(some 15), (.op (.mv (.t 2))), none⟩, ⟨(some 16), (.op (.bin .geq (.t 14) (.t 15))), none⟩])
   (.cond (.t 16) (.exit 0)
   .skip))
   (.seq (.seq (.dreg (.quiet ⟨(some 17), (.op (.mv (.t 9))), none⟩ (.quiet ⟨(some 18), (.op (.bin .add (.t 17) (.k (.int .i64 1)))), none⟩ (.quiet ⟨(some 19), (.op (.mv (.t 2))), none⟩ (.quiet ⟨(some 20), (.op (.bin .lss (.t 18) (.t 19))), none⟩ (.quiet ⟨(some 21), (.op (.mv (.t 20))), none⟩ (.quiet ⟨(some 22), (.op (.mv (.t 0))), (some (21, true))⟩ (.quiet ⟨(some 23), (.op (.mv (.t 3))), (some (21, true))⟩ (.quiet ⟨(some 24), (.op (.mv (.t 9))), (some (21, true))⟩ (.quiet ⟨(some 25), (.op (.bin .add (.t 23) (.t 24))), (some (21, true))⟩ (.quiet ⟨(some 26), (.op (.iaddrS 1 (.t 22) (.t 25))), (some (21, true))⟩ (.quiet ⟨(some 27), (.op (.load (.t 26))), (some (21, true))⟩ (.quiet ⟨(some 28), (.op (.mv (.t 0))), (some (21, true))⟩ (.quiet ⟨(some 29), (.op (.mv (.t 3))), (some (21, true))⟩ (.quiet ⟨(some 30), (.op (.mv (.t 9))), (some (21, true))⟩ (.quiet ⟨(some 31), (.op (.bin .add (.t 29) (.t 30))), (some (21, true))⟩ (.quiet ⟨(some 32), (.op (.bin .add (.t 31) (.k (.int .i64 1)))), (some (21, true))⟩ (.quiet ⟨(some 33), (.op (.iaddrS 1 (.t 28) (.t 32))), (some (21, true))⟩ (.quiet ⟨(some 34), (.op (.load (.t 33))), (some (21, true))⟩ (.loud ⟨(some 35), (.call (.f 162) [(.t 27), (.t 34)]), (some (21, true))⟩ [] (.quiet ⟨(some 36), (.op (.pick (.t 21) (.t 35) (.k (.bool false)))), none⟩ .nil)))))))))))))))))))))
   (.cond (.t 36) (.reg [⟨(some 37), (.op (.mv (.t 9))), none⟩, ⟨(some 38), (.op (.bin .add (.t 37) (.k (.int .i64 1)))), none⟩, ⟨(some 9), (.op (.mv (.t 38))), none⟩])
   .skip))
   (.seq (.seq (.dreg (.quiet ⟨(some 39), (.op (.mv (.t 0))), none⟩ (.quiet ⟨(some 40), (.op (.mv (.t 3))), none⟩ (.quiet ⟨(some 41), (.op (.mv (.t 8))), none⟩ (.quiet ⟨(some 42), (.op (.bin .add (.t 40) (.t 41))), none⟩ (.quiet ⟨(some 43), (.op (.iaddrS 1 (.t 39) (.t 42))), none⟩ (.quiet ⟨(some 44), (.op (.load (.t 43))), none⟩ (.quiet ⟨(some 45), (.op (.mv (.t 0))), none⟩ (.quiet ⟨(some 46), (.op (.mv (.t 3))), none⟩ (.quiet ⟨(some 47), (.op (.mv (.t 9))), none⟩ (.quiet ⟨(some 48), (.op (.bin .add (.t 46) (.t 47))), none⟩ (.quiet ⟨(some 49), (.op (.iaddrS 1 (.t 45) (.t 48))), none⟩ (.quiet ⟨(some 50), (.op (.load (.t 49))), none⟩ (.loud ⟨(some 51), (.call (.f 162) [(.t 44), (.t 50)]), none⟩ [] (.quiet ⟨(some 52), (.op (.un .not (.t 51))), none⟩ .nil)))))))))))))))
   (.cond (.t 52) .ret
   .skip))
   (.seq (.dreg (.quiet ⟨(some 53), (.op (.mv (.t 0))), none⟩ (.quiet ⟨(some 54), (.op (.mv (.t 3))), none⟩ (.quiet ⟨(some 55), (.op (.mv (.t 8))), none⟩ (.quiet ⟨(some 56), (.op (.bin .add (.t 54) (.t 55))), none⟩ (.quiet ⟨(some 57), (.op (.mv (.t 0))), none⟩ (.quiet ⟨(some 58), (.op (.mv (.t 3))), none⟩ (.quiet ⟨(some 59), (.op (.mv (.t 9))), none⟩ (.quiet ⟨(some 60), (.op (.bin .add (.t 58) (.t 59))), none⟩ (.quiet ⟨(some 61), (.op (.mv (.t 0))), none⟩ (.quiet ⟨(some 62), (.op (.mv (.t 3))), none⟩ (.quiet ⟨(some 63), (.op (.mv (.t 9))), none⟩ (.quiet ⟨(some 64), (.op (.bin .add (.t 62) (.t 63))), none⟩ (.quiet ⟨(some 65), (.op (.iaddrS 1 (.t 61) (.t 64))), none⟩ (.quiet ⟨(some 66), (.op (.load (.t 65))), none⟩ (.quiet ⟨(some 67), (.op (.mv (.t 0))), none⟩ (.quiet ⟨(some 68), (.op (.mv (.t 3))), none⟩ (.quiet ⟨(some 69), (.op (.mv (.t 8))), none⟩ (.quiet ⟨(some 70), (.op (.bin .add (.t 68) (.t 69))), none⟩ (.quiet ⟨(some 71), (.op (.iaddrS 1 (.t 67) (.t 70))), none⟩ (.quiet ⟨(some 72), (.op (.load (.t 71))), none⟩ (.quiet ⟨(some 73), (.op (.iaddrS 1 (.t 53) (.t 56))), none⟩ (.loud ⟨none, (.op (.store 1 (.t 73) (.t 66))), none⟩ [] (.quiet ⟨(some 74), (.op (.iaddrS 1 (.t 57) (.t 60))), none⟩ (.loud ⟨none, (.op (.store 1 (.t 74) (.t 72))), none⟩ [] .nil)))))))))))))))))))))))))
   (.reg [⟨(some 75), (.op (.mv (.t 9))), none⟩, ⟨(some 8), (.op (.mv (.t 75))), none⟩]))))))))))
def a196 : AF := ⟨76, [], .code b196, none⟩
theorem ok196 : AFOk Tryz.prog ext 196 a196 := .of Tryz.func196 (by kernel_rfl) (by kernel_rfl) (by kernel_rfl) (by kernel_rfl)
/-! 197: slices.nextPowerOfTwo -/
def b197 : AC :=
  (.seq (.reg [⟨(some 2), (.op (.mv (.k (.int .u64 0)))), none⟩])
  (.seq (.reg [⟨(some 3), (.op (.mv (.t 0))), none⟩, ⟨(some 4), (.op (.conv (.int .u64) (.t 3))), none⟩, ⟨(some 5), (.call (.f 107) [(.t 4)]), none⟩, ⟨(some 6), (.op (.bin .shl (.k (.int .u64 1)) (.t 5))), none⟩, ⟨(some 2), (.op (.mv (.t 6))), none⟩])
  .ret))
def a197 : AF := ⟨7, [(.t 2)], .code b197, none⟩
theorem ok197 : AFOk Tryz.prog ext 197 a197 := .of Tryz.func197 (by kernel_rfl) (by kernel_rfl) (by kernel_rfl) (by kernel_rfl)
/-! 198: (*slices.xorshift).Next -/
def b198 : AC :=
  (.seq (.reg [⟨(some 2), (.op (.mv (.k (.int .u64 0)))), none⟩])
  (.seq (.dreg (.quiet ⟨(some 3), (.op (.mv (.t 0))), none⟩ (.quiet ⟨(some 4), (.op (.nilchk (.t 3))), none⟩ (.quiet ⟨(some 5), (.op (.load (.t 4))), none⟩ (.quiet ⟨(some 6), (.op (.mv (.t 0))), none⟩ (.quiet ⟨(some 7), (.op (.nilchk (.t 6))), none⟩ (.quiet ⟨(some 8), (.op (.load (.t 7))), none⟩ (.quiet ⟨(some 9), (.op (.bin .shl (.t 8) (.k (.int .u64 13)))), none⟩ (.quiet ⟨(some 10), (.op (.bin .xor (.t 5) (.t 9))), none⟩ (.quiet ⟨(some 11), (.op (.nilchk (.t 3))), none⟩ (.loud ⟨none, (.op (.store 1 (.t 11) (.t 10))), none⟩ [] .nil)))))))))))
  (.seq (.dreg (.quiet ⟨(some 12), (.op (.mv (.t 0))), none⟩ (.quiet ⟨(some 13), (.op (.nilchk (.t 12))), none⟩ (.quiet ⟨(some 14), (.op (.load (.t 13))), none⟩ (.quiet ⟨(some 15), (.op (.mv (.t 0))), none⟩ (.quiet ⟨(some 16), (.op (.nilchk (.t 15))), none⟩ (.quiet ⟨(some 17), (.op (.load (.t 16))), none⟩ (.quiet ⟨(some 18), (.op (.bin .shr (.t 17) (.k (.int .u64 7)))), none⟩ (.quiet ⟨(some 19), (.op (.bin .xor (.t 14) (.t 18))), none⟩ (.quiet ⟨(some 20), (.op (.nilchk (.t 12))), none⟩ (.loud ⟨none, (.op (.store 1 (.t 20) (.t 19))), none⟩ [] .nil)))))))))))
  (.seq (.dreg (.quiet ⟨(some 21), (.op (.mv (.t 0))), none⟩ (.quiet ⟨(some 22), (.op (.nilchk (.t 21))), none⟩ (.quiet ⟨(some 23), (.op (.load (.t 22))), none⟩ (.quiet ⟨(some 24), (.op (.mv (.t 0))), none⟩ (.quiet ⟨(some 25), (.op (.nilchk (.t 24))), none⟩ (.quiet ⟨(some 26), (.op (.load (.t 25))), none⟩ (.quiet ⟨(some 27), (.op (.bin .shl (.t 26) (.k (.int .u64 17)))), none⟩ (.quiet ⟨(some 28), (.op (.bin .xor (.t 23) (.t 27))), none⟩ (.quiet ⟨(some 29), (.op (.nilchk (.t 21))), none⟩ (.loud ⟨none, (.op (.store 1 (.t 29) (.t 28))), none⟩ [] .nil)))))))))))
  (.seq (.reg [⟨(some 30), (.op (.mv (.t 0))), none⟩, ⟨(some 31), (.op (.nilchk (.t 30))), none⟩, ⟨(some 32), (.op (.load (.t 31))), none⟩, ⟨(some 2), (.op (.mv (.t 32))), none⟩])
  .ret)))))
def a198 : AF := ⟨33, [(.t 2)], .code b198, none⟩
theorem ok198 : AFOk Tryz.prog ext 198 a198 := .of Tryz.func198 (by kernel_rfl) (by kernel_rfl) (by kernel_rfl) (by kernel_rfl)
/-! 199: slices.medianAdjacentOrdered[int] -/
def b199 : AC :=
  (.seq (.reg [⟨(some 6), (.op (.mv (.k (.int .i64 0)))), none⟩])
  (.seq (.reg [⟨(some 7), (.op (.mv (.t 0))), none⟩, ⟨(some 8), (.op (.mv (.t 1))), none⟩, ⟨(some 9), (.op (.bin .sub (.t 8) (.k (.int .i64 1)))), none⟩, ⟨(some 10), (.op (.mv (.t 1))), none⟩, ⟨(some 11), (.op (.mv (.t 1))), none⟩, ⟨(some 12), (.op (.bin .add (.t 11) (.k (.int .i64 1)))), none⟩, ⟨(some 13), (.op (.mv (.t 2))), none⟩, ⟨(some 14), (.call (.f 200) [(.t 7), (.t 9), (.t 10), (.t 12), (.t 13)]), none⟩, ⟨(some 6), (.op (.mv (.t 14))), none⟩])
  .ret))
def a199 : AF := ⟨15, [(.t 6)], .code b199, none⟩
theorem ok199 : AFOk Tryz.prog ext 199 a199 := .of Tryz.func199 (by kernel_rfl) (by kernel_rfl) (by kernel_rfl) (by kernel_rfl)
/-! 200: slices.medianOrdered[int] -/
def b200 : AC :=
  (.seq (.reg [⟨(some 10), (.op (.mv (.k (.int .i64 0)))), none⟩])
  (.seq (.reg [⟨(some 12), (.op (.mv (.t 0))), none⟩, ⟨(some 13), (.op (.mv (.t 1))), none⟩, ⟨(some 14), (.op (.mv (.t 2))), none⟩, ⟨(some 15), (.op (.mv (.t 4))), none⟩, ⟨(some 16), (.call (.f 210) [(.t 12), (.t 13), (.t 14), (.t 15)]), none⟩, ⟨(some 11), (.op (.mv (.t 16))), none⟩, ⟨(some 17), (.op (.extract (.t 11) 0)), none⟩, ⟨(some 18), (.op (.extract (.t 11) 1)), none⟩, ⟨(some 1), (.op (.mv (.t 17))), none⟩, ⟨(some 2), (.op (.mv (.t 18))), none⟩])
  (.seq (.reg [⟨(some 20), (.op (.mv (.t 0))), none⟩, ⟨(some 21), (.op (.mv (.t 2))), none⟩, ⟨(some 22), (.op (.mv (.t 3))), none⟩, ⟨(some 23), (.op (.mv (.t 4))), none⟩, ⟨(some 24), (.call (.f 210) [(.t 20), (.t 21), (.t 22), (.t 23)]), none⟩, ⟨(some 19), (.op (.mv (.t 24))), none⟩, ⟨(some 25), (.op (.extract (.t 19) 0)), none⟩, ⟨(some 26), (.op (.extract (.t 19) 1)), none⟩, ⟨(some 2), (.op (.mv (.t 25))), none⟩, ⟨(some 3), (.op (.mv (.t 26))), none⟩])
  (.seq (.reg [⟨(some 28), (.op (.mv (.t 0))), none⟩, ⟨(some 29), (.op (.mv (.t 1))), none⟩, ⟨(some 30), (.op (.mv (.t 2))), none⟩, ⟨(some 31), (.op (.mv (.t 4))), none⟩, ⟨(some 32), (.call (.f 210) [(.t 28), (.t 29), (.t 30), (.t 31)]), none⟩, ⟨(some 27), (.op (.mv (.t 32))), none⟩, ⟨(some 33), (.op (.extract (.t 27) 0)), none⟩, ⟨(some 34), (.op (.extract (.t 27) 1)), none⟩, ⟨(some 1), (.op (.mv (.t 33))), none⟩, ⟨(some 2), (.op (.mv (.t 34))), none⟩])
  (.seq (.reg [⟨(some 35), (.op (.mv (.t 2))), none⟩, ⟨(some 10), (.op (.mv (.t 35))), none⟩])
  .ret)))))
def a200 : AF := ⟨36, [(.t 10)], .code b200, none⟩
theorem ok200 : AFOk Tryz.prog ext 200 a200 := .of Tryz.func200 (by kernel_rfl) (by kernel_rfl) (by kernel_rfl) (by kernel_rfl)
/-! 201: cmp.isNaN[int] -/
def b201 : AC :=
  (.seq (.reg [⟨(some 2), (.op (.mv (.k (.bool false)))), none⟩])
  (.seq (.reg [⟨(some 3), (.op (.mv (.t 0))), none⟩, ⟨(some 4), (.op (.mv (.t 0))), none⟩, ⟨(some 5), (.op (.bin .neq (.t 3) (.t 4))), none⟩, ⟨(some 2), (.op (.mv (.t 5))), none⟩])
  .ret))
def a201 : AF := ⟨6, [(.t 2)], .code b201, none⟩
theorem ok201 : AFOk Tryz.prog ext 201 a201 := .of Tryz.func201 (by kernel_rfl) (by kernel_rfl) (by kernel_rfl) (by kernel_rfl)
/-! 204: (*rowlock/rowlockref06.Set).Get -/
def b204 : AC :=
  (.seq (.reg [⟨(some 4), (.op (.alloc 155 [(.int .i64 0), (.int .u64 0), (.int .u64 0)])), none⟩, ⟨(some 5), (.op (.mv (.k (.bool false)))), none⟩])
  (.seq (.seq (.reg [⟨(some 6), (.op (.mv (.k (.int .i64 0)))), none⟩])
  (.block 0 (.loop (.seq (.seq (.reg [⟨(some 7), (.op (.mv (.t 0))), none⟩, ⟨(some 8), (.op (.eq true .ptr (.t 7) (.k (.pointer none)))), none⟩, ⟨(some 9), (.op (.mv (.t 8))), none⟩, ⟨(some 10), (.op (.mv (.t 6))), (some (9, true))⟩, ⟨(some 11), (.op (.mv (.t 0))), (some (9, true))⟩, ⟨(some 12), (.op (.nilchk (.t 11))), (some (9, true))⟩, ⟨(some 13), (.op (.faddr 0 (.t 12))), (some (9, true))⟩, ⟨(some 14), (.op (.load (.t 13))), (some (9, true))⟩, ⟨(some 15), (.op (.lenS (.t 14))), (some (9, true))⟩, ⟨(some 16), (.op (.bin .lss (.t 10) (.t 15))), (some (9, true))⟩, ⟨(some 17), (.op (.pick (.t 9) (.t 16) (.k (.bool false)))), none⟩])
   (.cond (.t 17) .skip
   (.exit 0)))
   (.seq (.block 1 (.seq (.reg [⟨(some 20), (.op (.mv (.t 0))), none⟩, ⟨(some 21), (.op (.nilchk (.t 20))), none⟩, ⟨(some 22), (.op (.faddr 0 (.t 21))), none⟩, ⟨(some 23), (.op (.load (.t 22))), none⟩, ⟨(some 24), (.op (.mv (.t 6))), none⟩, ⟨(some 25), (.op (.iaddrS 3 (.t 23) (.t 24))), none⟩, ⟨(some 26), (.op (.faddr 0 (.t 25))), none⟩, ⟨(some 27), (.op (.load (.t 26))), none⟩, ⟨(some 28), (.op (.mv (.t 1))), none⟩, ⟨(some 29), (.op (.bin .eql (.t 27) (.t 28))), none⟩])
   (.cond (.t 29) (.seq (.reg [⟨(some 30), (.op (.mv (.t 0))), none⟩, ⟨(some 31), (.op (.nilchk (.t 30))), none⟩, ⟨(some 32), (.op (.faddr 0 (.t 31))), none⟩, ⟨(some 33), (.op (.load (.t 32))), none⟩, ⟨(some 34), (.op (.mv (.t 6))), none⟩, ⟨(some 35), (.op (.iaddrS 3 (.t 33) (.t 34))), none⟩, ⟨(some 36), (.op (.loadN 3 (.t 35))), none⟩, ⟨none, (.op (.store 3 (.t 4) (.t 36))), none⟩, ⟨(some 5), (.op (.mv (.k (.bool true)))), none⟩])
   .ret)
   .skip)))
   (.reg [⟨(some 18), (.op (.mv (.t 6))), none⟩, ⟨(some 19), (.op (.bin .add (.t 18) (.k (.int .i64 1)))), none⟩, ⟨(some 6), (.op (.mv (.t 19))), none⟩]))))))
  (.seq (.reg [⟨(some 37), (.op (.build [(.int .i64 0), (.int .u64 0), (.int .u64 0)] [])), none⟩, ⟨none, (.op (.store 3 (.t 4) (.t 37))), none⟩, ⟨(some 5), (.op (.mv (.k (.bool false)))), none⟩])
  .ret)))
def a204 : AF := ⟨38, [(.c 4 true 3), (.t 5)], .code b204, none⟩
theorem ok204 : AFOk Tryz.prog ext 204 a204 := .of Tryz.func204 (by kernel_rfl) (by kernel_rfl) (by kernel_rfl) (by kernel_rfl)
/-! 207: (*rowlock/seqlock.Lock).free$1 -/
def b207 : AC :=
  (.seq (.reg [⟨(some 3), (.op (.load (.t 0))), none⟩, ⟨(some 4), (.op (.eq true .ptr (.t 3) (.k (.pointer none)))), none⟩, ⟨(some 5), (.call (.f 130) [(.t 4), (.k (.int .i64 1))]), none⟩])
  (.seq (.dreg (.quiet ⟨(some 6), (.op (.load (.t 0))), none⟩ (.quiet ⟨(some 7), (.op (.nilchk (.t 6))), none⟩ (.quiet ⟨(some 8), (.op (.faddr 0 (.t 7))), none⟩ (.quiet ⟨(some 9), (.op (.load (.t 8))), none⟩ (.quiet ⟨(some 10), (.op (.eq true .ptr (.t 9) (.k (.pointer none)))), none⟩ (.quiet ⟨(some 11), (.op (.mv (.t 10))), none⟩ (.quiet ⟨(some 12), (.op (.load (.t 0))), (some (11, true))⟩ (.quiet ⟨(some 13), (.op (.nilchk (.t 12))), (some (11, true))⟩ (.quiet ⟨(some 14), (.op (.faddr 0 (.t 13))), (some (11, true))⟩ (.quiet ⟨(some 15), (.op (.load (.t 14))), (some (11, true))⟩ (.quiet ⟨(some 16), (.op (.nilchk (.t 15))), (some (11, true))⟩ (.quiet ⟨(some 17), (.op (.load (.t 16))), (some (11, true))⟩ (.quiet ⟨(some 18), (.op (.load (.t 1))), (some (11, true))⟩ (.quiet ⟨(some 19), (.op (.bin .eql (.t 17) (.t 18))), (some (11, true))⟩ (.quiet ⟨(some 20), (.op (.pick (.t 11) (.t 19) (.k (.bool false)))), none⟩ (.loud ⟨(some 21), (.call (.f 130) [(.t 20), (.k (.int .i64 8))]), none⟩ [] .nil)))))))))))))))))
  (.seq (.reg [⟨(some 22), (.op (.load (.t 0))), none⟩, ⟨(some 23), (.op (.nilchk (.t 22))), none⟩, ⟨(some 24), (.op (.faddr 0 (.t 23))), none⟩, ⟨none, (.op (.store 1 (.t 24) (.k (.pointer none)))), none⟩])
  (.dreg (.quiet ⟨(some 25), (.op (.load (.t 0))), none⟩ (.quiet ⟨(some 26), (.op (.load (.t 2))), none⟩ (.quiet ⟨(some 27), (.op (.load (.t 0))), none⟩ (.quiet ⟨(some 28), (.op (.nilchk (.t 27))), none⟩ (.quiet ⟨(some 29), (.op (.faddr 1 (.t 28))), none⟩ (.quiet ⟨(some 30), (.op (.load (.t 29))), none⟩ (.loud ⟨(some 31), (.call (.t 26) [(.t 30)]), none⟩ [⟨(some 25), (.op (.load (.t 0))), none⟩] (.quiet ⟨(some 32), (.op (.nilchk (.t 25))), none⟩ (.quiet ⟨(some 33), (.op (.faddr 1 (.t 32))), none⟩ (.loud ⟨none, (.op (.store 1 (.t 33) (.t 31))), none⟩ [] .nil))))))))))))))
def a207 : AF := ⟨34, [], .code b207, none⟩
theorem ok207 : AFOk Tryz.prog ext 207 a207 := .of Tryz.func207 (by kernel_rfl) (by kernel_rfl) (by kernel_rfl) (by kernel_rfl)
/-! 208: slices.Clone[rowlock/writes.frame,rowlock/api.Pair] -/
def b208 : AC :=
  (.seq (.reg [⟨(some 2), (.op (.mv (.k (.slice none 0 0)))), none⟩])
  (.seq (.seq (.reg [⟨(some 3), (.op (.mv (.t 0))), none⟩, ⟨(some 4), (.isnil false (.t 3)), none⟩])
  (.cond (.t 4) (.seq (.reg [⟨(some 2), (.op (.mv (.k (.slice none 0 0)))), none⟩])
  .ret)
  .skip))
  (.seq (.reg [⟨(some 5), (.op (.bslice 157 [] 0 [])), none⟩, ⟨(some 6), (.op (.mv (.t 0))), none⟩, ⟨(some 7), (.op (.append 157 2 16 (.t 5) (.t 6))), none⟩, ⟨(some 2), (.op (.mv (.t 7))), none⟩])
  .ret)))
def a208 : AF := ⟨8, [(.t 2)], .code b208, none⟩
theorem ok208 : AFOk Tryz.prog ext 208 a208 := .of Tryz.func208 (by kernel_rfl) (by kernel_rfl) (by kernel_rfl) (by kernel_rfl)
/-! 210: slices.order2Ordered[int] -/
def b210 : AC :=
  (.seq (.reg [⟨(some 8), (.op (.mv (.k (.int .i64 0)))), none⟩, ⟨(some 9), (.op (.mv (.k (.int .i64 0)))), none⟩])
  (.seq (.seq (.dreg (.quiet ⟨(some 10), (.op (.mv (.t 0))), none⟩ (.quiet ⟨(some 11), (.op (.mv (.t 2))), none⟩ (.quiet ⟨(some 12), (.op (.iaddrS 1 (.t 10) (.t 11))), none⟩ (.quiet ⟨(some 13), (.op (.load (.t 12))), none⟩ (.quiet ⟨(some 14), (.op (.mv (.t 0))), none⟩ (.quiet ⟨(some 15), (.op (.mv (.t 1))), none⟩ (.quiet ⟨(some 16), (.op (.iaddrS 1 (.t 14) (.t 15))), none⟩ (.quiet ⟨(some 17), (.op (.load (.t 16))), none⟩ (.loud ⟨(some 18), (.call (.f 162) [(.t 13), (.t 17)]), none⟩ [] .nil))))))))))
  (.cond (.t 18) (.seq (.reg [⟨(some 19), (.op (.mv (.t 3))), none⟩, ⟨(some 20), (.op (.nilchk (.t 19))), none⟩, ⟨(some 21), (.op (.load (.t 20))), none⟩, ⟨(some 22), (.op (.bin .add (.t 21) (.k (.int .i64 1)))), none⟩, ⟨(some 23), (.op (.nilchk (.t 19))), none⟩, ⟨none, (.op (.store 1 (.t 23) (.t 22))), none⟩])
  (.seq (.reg [⟨(some 24), (.op (.mv (.t 2))), none⟩, ⟨(some 25), (.op (.mv (.t 1))), none⟩, ⟨(some 8), (.op (.mv (.t 24))), none⟩, ⟨(some 9), (.op (.mv (.t 25))), none⟩])
  .ret))
  .skip))
  (.seq (.reg [⟨(some 26), (.op (.mv (.t 1))), none⟩, ⟨(some 27), (.op (.mv (.t 2))), none⟩, ⟨(some 8), (.op (.mv (.t 26))), none⟩, ⟨(some 9), (.op (.mv (.t 27))), none⟩])
  .ret)))
def a210 : AF := ⟨28, [(.t 8), (.t 9)], .code b210, none⟩
theorem ok210 : AFOk Tryz.prog ext 210 a210 := .of Tryz.func210 (by kernel_rfl) (by kernel_rfl) (by kernel_rfl) (by kernel_rfl)
def forms : FuncId → Option AF
  | 2 => some a2
  | 3 => some a3
  | 7 => some a7
  | 9 => some a9
  | 11 => some a11
  | 12 => some a12
  | 13 => some a13
  | 14 => some a14
  | 16 => some a16
  | 17 => some a17
  | 18 => some a18
  | 21 => some a21
  | 24 => some a24
  | 25 => some a25
  | 26 => some a26
  | 27 => some a27
  | 28 => some a28
  | 29 => some a29
  | 30 => some a30
  | 31 => some a31
  | 32 => some a32
  | 33 => some a33
  | 34 => some a34
  | 35 => some a35
  | 36 => some a36
  | 42 => some a42
  | 44 => some a44
  | 45 => some a45
  | 46 => some a46
  | 47 => some a47
  | 48 => some a48
  | 49 => some a49
  | 67 => some a67
  | 68 => some a68
  | 69 => some a69
  | 70 => some a70
  | 71 => some a71
  | 79 => some a79
  | 80 => some a80
  | 81 => some a81
  | 82 => some a82
  | 83 => some a83
  | 84 => some a84
  | 85 => some a85
  | 86 => some a86
  | 87 => some a87
  | 88 => some a88
  | 89 => some a89
  | 90 => some a90
  | 91 => some a91
  | 92 => some a92
  | 93 => some a93
  | 94 => some a94
  | 95 => some a95
  | 96 => some a96
  | 97 => some a97
  | 98 => some a98
  | 105 => some a105
  | 106 => some a106
  | 107 => some a107
  | 115 => some a115
  | 118 => some a118
  | 128 => some a128
  | 129 => some a129
  | 130 => some a130
  | 131 => some a131
  | 132 => some a132
  | 133 => some a133
  | 134 => some a134
  | 135 => some a135
  | 136 => some a136
  | 137 => some a137
  | 138 => some a138
  | 139 => some a139
  | 140 => some a140
  | 141 => some a141
  | 142 => some a142
  | 143 => some a143
  | 144 => some a144
  | 145 => some a145
  | 146 => some a146
  | 147 => some a147
  | 148 => some a148
  | 156 => some a156
  | 157 => some a157
  | 158 => some a158
  | 159 => some a159
  | 160 => some a160
  | 161 => some a161
  | 162 => some a162
  | 163 => some a163
  | 164 => some a164
  | 165 => some a165
  | 166 => some a166
  | 175 => some a175
  | 183 => some a183
  | 184 => some a184
  | 185 => some a185
  | 186 => some a186
  | 187 => some a187
  | 188 => some a188
  | 189 => some a189
  | 190 => some a190
  | 191 => some a191
  | 192 => some a192
  | 196 => some a196
  | 197 => some a197
  | 198 => some a198
  | 199 => some a199
  | 200 => some a200
  | 201 => some a201
  | 204 => some a204
  | 207 => some a207
  | 208 => some a208
  | 210 => some a210
  | _ => none
theorem forms2 : forms 2 = some a2 := rfl
theorem forms3 : forms 3 = some a3 := rfl
theorem forms7 : forms 7 = some a7 := rfl
theorem forms9 : forms 9 = some a9 := rfl
theorem forms11 : forms 11 = some a11 := rfl
theorem forms12 : forms 12 = some a12 := rfl
theorem forms13 : forms 13 = some a13 := rfl
theorem forms14 : forms 14 = some a14 := rfl
theorem forms16 : forms 16 = some a16 := rfl
theorem forms17 : forms 17 = some a17 := rfl
theorem forms18 : forms 18 = some a18 := rfl
theorem forms21 : forms 21 = some a21 := rfl
theorem forms24 : forms 24 = some a24 := rfl
theorem forms25 : forms 25 = some a25 := rfl
theorem forms26 : forms 26 = some a26 := rfl
theorem forms27 : forms 27 = some a27 := rfl
theorem forms28 : forms 28 = some a28 := rfl
theorem forms29 : forms 29 = some a29 := rfl
theorem forms30 : forms 30 = some a30 := rfl
theorem forms31 : forms 31 = some a31 := rfl
theorem forms32 : forms 32 = some a32 := rfl
theorem forms33 : forms 33 = some a33 := rfl
theorem forms34 : forms 34 = some a34 := rfl
theorem forms35 : forms 35 = some a35 := rfl
theorem forms36 : forms 36 = some a36 := rfl
theorem forms42 : forms 42 = some a42 := rfl
theorem forms44 : forms 44 = some a44 := rfl
theorem forms45 : forms 45 = some a45 := rfl
theorem forms46 : forms 46 = some a46 := rfl
theorem forms47 : forms 47 = some a47 := rfl
theorem forms48 : forms 48 = some a48 := rfl
theorem forms49 : forms 49 = some a49 := rfl
theorem forms67 : forms 67 = some a67 := rfl
theorem forms68 : forms 68 = some a68 := rfl
theorem forms69 : forms 69 = some a69 := rfl
theorem forms70 : forms 70 = some a70 := rfl
theorem forms71 : forms 71 = some a71 := rfl
theorem forms79 : forms 79 = some a79 := rfl
theorem forms80 : forms 80 = some a80 := rfl
theorem forms81 : forms 81 = some a81 := rfl
theorem forms82 : forms 82 = some a82 := rfl
theorem forms83 : forms 83 = some a83 := rfl
theorem forms84 : forms 84 = some a84 := rfl
theorem forms85 : forms 85 = some a85 := rfl
theorem forms86 : forms 86 = some a86 := rfl
theorem forms87 : forms 87 = some a87 := rfl
theorem forms88 : forms 88 = some a88 := rfl
theorem forms89 : forms 89 = some a89 := rfl
theorem forms90 : forms 90 = some a90 := rfl
theorem forms91 : forms 91 = some a91 := rfl
theorem forms92 : forms 92 = some a92 := rfl
theorem forms93 : forms 93 = some a93 := rfl
theorem forms94 : forms 94 = some a94 := rfl
theorem forms95 : forms 95 = some a95 := rfl
theorem forms96 : forms 96 = some a96 := rfl
theorem forms97 : forms 97 = some a97 := rfl
theorem forms98 : forms 98 = some a98 := rfl
theorem forms105 : forms 105 = some a105 := rfl
theorem forms106 : forms 106 = some a106 := rfl
theorem forms107 : forms 107 = some a107 := rfl
theorem forms115 : forms 115 = some a115 := rfl
theorem forms118 : forms 118 = some a118 := rfl
theorem forms128 : forms 128 = some a128 := rfl
theorem forms129 : forms 129 = some a129 := rfl
theorem forms130 : forms 130 = some a130 := rfl
theorem forms131 : forms 131 = some a131 := rfl
theorem forms132 : forms 132 = some a132 := rfl
theorem forms133 : forms 133 = some a133 := rfl
theorem forms134 : forms 134 = some a134 := rfl
theorem forms135 : forms 135 = some a135 := rfl
theorem forms136 : forms 136 = some a136 := rfl
theorem forms137 : forms 137 = some a137 := rfl
theorem forms138 : forms 138 = some a138 := rfl
theorem forms139 : forms 139 = some a139 := rfl
theorem forms140 : forms 140 = some a140 := rfl
theorem forms141 : forms 141 = some a141 := rfl
theorem forms142 : forms 142 = some a142 := rfl
theorem forms143 : forms 143 = some a143 := rfl
theorem forms144 : forms 144 = some a144 := rfl
theorem forms145 : forms 145 = some a145 := rfl
theorem forms146 : forms 146 = some a146 := rfl
theorem forms147 : forms 147 = some a147 := rfl
theorem forms148 : forms 148 = some a148 := rfl
theorem forms156 : forms 156 = some a156 := rfl
theorem forms157 : forms 157 = some a157 := rfl
theorem forms158 : forms 158 = some a158 := rfl
theorem forms159 : forms 159 = some a159 := rfl
theorem forms160 : forms 160 = some a160 := rfl
theorem forms161 : forms 161 = some a161 := rfl
theorem forms162 : forms 162 = some a162 := rfl
theorem forms163 : forms 163 = some a163 := rfl
theorem forms164 : forms 164 = some a164 := rfl
theorem forms165 : forms 165 = some a165 := rfl
theorem forms166 : forms 166 = some a166 := rfl
theorem forms175 : forms 175 = some a175 := rfl
theorem forms183 : forms 183 = some a183 := rfl
theorem forms184 : forms 184 = some a184 := rfl
theorem forms185 : forms 185 = some a185 := rfl
theorem forms186 : forms 186 = some a186 := rfl
theorem forms187 : forms 187 = some a187 := rfl
theorem forms188 : forms 188 = some a188 := rfl
theorem forms189 : forms 189 = some a189 := rfl
theorem forms190 : forms 190 = some a190 := rfl
theorem forms191 : forms 191 = some a191 := rfl
theorem forms192 : forms 192 = some a192 := rfl
theorem forms196 : forms 196 = some a196 := rfl
theorem forms197 : forms 197 = some a197 := rfl
theorem forms198 : forms 198 = some a198 := rfl
theorem forms199 : forms 199 = some a199 := rfl
theorem forms200 : forms 200 = some a200 := rfl
theorem forms201 : forms 201 = some a201 := rfl
theorem forms204 : forms 204 = some a204 := rfl
theorem forms207 : forms 207 = some a207 := rfl
theorem forms208 : forms 208 = some a208 := rfl
theorem forms210 : forms 210 = some a210 := rfl
set_option maxHeartbeats 4000000 in
theorem forms_ok : ∀ f af, forms f = some af → AFOk Tryz.prog ext f af := by
  intro f af h
  unfold forms at h
  split at h
  · cases h; exact ok2
  · cases h; exact ok3
  · cases h; exact ok7
  · cases h; exact ok9
  · cases h; exact ok11
  · cases h; exact ok12
  · cases h; exact ok13
  · cases h; exact ok14
  · cases h; exact ok16
  · cases h; exact ok17
  · cases h; exact ok18
  · cases h; exact ok21
  · cases h; exact ok24
  · cases h; exact ok25
  · cases h; exact ok26
  · cases h; exact ok27
  · cases h; exact ok28
  · cases h; exact ok29
  · cases h; exact ok30
  · cases h; exact ok31
  · cases h; exact ok32
  · cases h; exact ok33
  · cases h; exact ok34
  · cases h; exact ok35
  · cases h; exact ok36
  · cases h; exact ok42
  · cases h; exact ok44
  · cases h; exact ok45
  · cases h; exact ok46
  · cases h; exact ok47
  · cases h; exact ok48
  · cases h; exact ok49
  · cases h; exact ok67
  · cases h; exact ok68
  · cases h; exact ok69
  · cases h; exact ok70
  · cases h; exact ok71
  · cases h; exact ok79
  · cases h; exact ok80
  · cases h; exact ok81
  · cases h; exact ok82
  · cases h; exact ok83
  · cases h; exact ok84
  · cases h; exact ok85
  · cases h; exact ok86
  · cases h; exact ok87
  · cases h; exact ok88
  · cases h; exact ok89
  · cases h; exact ok90
  · cases h; exact ok91
  · cases h; exact ok92
  · cases h; exact ok93
  · cases h; exact ok94
  · cases h; exact ok95
  · cases h; exact ok96
  · cases h; exact ok97
  · cases h; exact ok98
  · cases h; exact ok105
  · cases h; exact ok106
  · cases h; exact ok107
  · cases h; exact ok115
  · cases h; exact ok118
  · cases h; exact ok128
  · cases h; exact ok129
  · cases h; exact ok130
  · cases h; exact ok131
  · cases h; exact ok132
  · cases h; exact ok133
  · cases h; exact ok134
  · cases h; exact ok135
  · cases h; exact ok136
  · cases h; exact ok137
  · cases h; exact ok138
  · cases h; exact ok139
  · cases h; exact ok140
  · cases h; exact ok141
  · cases h; exact ok142
  · cases h; exact ok143
  · cases h; exact ok144
  · cases h; exact ok145
  · cases h; exact ok146
  · cases h; exact ok147
  · cases h; exact ok148
  · cases h; exact ok156
  · cases h; exact ok157
  · cases h; exact ok158
  · cases h; exact ok159
  · cases h; exact ok160
  · cases h; exact ok161
  · cases h; exact ok162
  · cases h; exact ok163
  · cases h; exact ok164
  · cases h; exact ok165
  · cases h; exact ok166
  · cases h; exact ok175
  · cases h; exact ok183
  · cases h; exact ok184
  · cases h; exact ok185
  · cases h; exact ok186
  · cases h; exact ok187
  · cases h; exact ok188
  · cases h; exact ok189
  · cases h; exact ok190
  · cases h; exact ok191
  · cases h; exact ok192
  · cases h; exact ok196
  · cases h; exact ok197
  · cases h; exact ok198
  · cases h; exact ok199
  · cases h; exact ok200
  · cases h; exact ok201
  · cases h; exact ok204
  · cases h; exact ok207
  · cases h; exact ok208
  · cases h; exact ok210
  · cases h
theorem hext : ExtOk Tryz.prog ext := .one fun args w => run_callFunc_extern Tryz.func149 (by kernel_rfl) (by kernel_rfl) (by kernel_rfl) (by kernel_rfl) args w
theorem hmix : Tryz.prog.follows .mixedOrders = true := by kernel_rfl
end YtnemoimbeefngaaGreat
end Go.Proofs
