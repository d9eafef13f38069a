/-
  THE FUNCTIONS of this seat in their plain form, and that each is the loaded one's.
-/
import Derived.Test.YtapbabkndhaemaaGreatPF1

namespace Go.Proofs
namespace YtapbabkndhaemaaGreat
open Go.Abs
/-! 114: slices.pdqsortOrdered[int] -/
def b114 : AC :=
  (.seq (.reg [⟨(some 8), (.op (.mv (.k (.bool true)))), none⟩])
  (.seq (.reg [⟨(some 9), (.op (.mv (.k (.bool true)))), none⟩])
  (.block 0 (.loop (.block 1 (.seq (.reg [⟨(some 19), (.op (.mv (.t 2))), none⟩, ⟨(some 20), (.op (.mv (.t 1))), none⟩, ⟨(some 21), (.op (.bin .sub (.t 19) (.t 20))), none⟩, ⟨(some 10), (.op (.mv (.t 21))), none⟩])
   (.seq (.seq (.reg [⟨(some 22), (.op (.mv (.t 10))), none⟩, ⟨(some 23), (.op (.bin .leq (.t 22) (.k (.int .i64 12)))), none⟩])
   (.cond (.t 23) (.seq (.reg [⟨(some 24), (.op (.mv (.t 0))), none⟩, ⟨(some 25), (.op (.mv (.t 1))), none⟩, ⟨(some 26), (.op (.mv (.t 2))), none⟩, ⟨(some 27), (.call (.f 166) [(.t 24), (.t 25), (.t 26)]), none⟩])
   .ret)
   .skip))
   (.seq (.seq (.reg [⟨(some 28), (.op (.mv (.t 3))), none⟩, ⟨(some 29), (.op (.bin .eql (.t 28) (.k (.int .i64 0)))), none⟩])
   (.cond (.t 29) (.seq (.reg [⟨(some 30), (.op (.mv (.t 0))), none⟩, ⟨(some 31), (.op (.mv (.t 1))), none⟩, ⟨(some 32), (.op (.mv (.t 2))), none⟩, ⟨(some 33), (.call (.f 167) [(.t 30), (.t 31), (.t 32)]), none⟩])
   .ret)
   .skip))
   (.seq (.seq (.reg [⟨(some 34), (.op (.mv (.t 8))), none⟩, ⟨(some 35), (.op (.un .not (.t 34))), none⟩])
   (.cond (.t 35) (.seq (.reg [⟨(some 36), (.op (.mv (.t 0))), none⟩, ⟨(some 37), (.op (.mv (.t 1))), none⟩, ⟨(some 38), (.op (.mv (.t 2))), none⟩, ⟨(some 39), (.call (.f 168) [(.t 36), (.t 37), (.t 38)]), none⟩])
   (.reg [⟨(some 40), (.op (.mv (.t 3))), none⟩, ⟨(some 41), (.op (.bin .sub (.t 40) (.k (.int .i64 1)))), none⟩, ⟨(some 3), (.op (.mv (.t 41))), none⟩]))
   .skip))
   (.seq (.reg [⟨(some 43), (.op (.mv (.t 0))), none⟩, ⟨(some 44), (.op (.mv (.t 1))), none⟩, ⟨(some 45), (.op (.mv (.t 2))), none⟩, ⟨(some 46), (.call (.f 169) [(.t 43), (.t 44), (.t 45)]), none⟩, ⟨(some 42), (.op (.mv (.t 46))), none⟩, ⟨(some 47), (.op (.extract (.t 42) 0)), none⟩, ⟨(some 48), (.op (.extract (.t 42) 1)), none⟩, ⟨(some 11), (.op (.mv (.t 47))), none⟩, ⟨(some 12), (.op (.mv (.t 48))), none⟩])
   (.seq (.seq (.reg [⟨(some 49), (.op (.mv (.t 12))), none⟩, ⟨(some 50), (.op (.bin .eql (.t 49) (.k (.int .i64 2)))), none⟩])
   (.cond (.t 50) (.seq (.reg [⟨(some 51), (.op (.mv (.t 0))), none⟩, ⟨(some 52), (.op (.mv (.t 1))), none⟩, ⟨(some 53), (.op (.mv (.t 2))), none⟩, ⟨(some 54), (.call (.f 170) [(.t 51), (.t 52), (.t 53)]), none⟩])
   (.seq (.reg [⟨(some 55), (.op (.mv (.t 2))), none⟩, ⟨(some 56), (.op (.bin .sub (.t 55) (.k (.int .i64 1)))), none⟩, ⟨(some 57), (.op (.mv (.t 11))), none⟩, ⟨(some 58), (.op (.mv (.t 1))), none⟩, ⟨(some 59), (.op (.bin .sub (.t 57) (.t 58))), none⟩, ⟨(some 60), (.op (.bin .sub (.t 56) (.t 59))), none⟩, ⟨(some 11), (.op (.mv (.t 60))), none⟩])
   (.reg [⟨(some 12), (.op (.mv (.k (.int .i64 1)))), none⟩])))
   .skip))
   (.seq (.seq (.reg [⟨(some 61), (.op (.mv (.t 8))), none⟩, ⟨(some 62), (.op (.mv (.t 61))), none⟩, ⟨(some 63), (.op (.mv (.t 9))), (some (62, true))⟩, ⟨(some 64), (.op (.pick (.t 62) (.t 63) (.k (.bool false)))), none⟩, ⟨(some 65), (.op (.mv (.t 64))), none⟩, ⟨(some 66), (.op (.mv (.t 12))), (some (65, true))⟩, ⟨(some 67), (.op (.bin .eql (.t 66) (.k (.int .i64 1)))), (some (65, true))⟩, ⟨(some 68), (.op (.pick (.t 65) (.t 67) (.k (.bool false)))), none⟩])
   (.cond (.t 68) (.seq (.reg [⟨(some 69), (.op (.mv (.t 0))), none⟩, ⟨(some 70), (.op (.mv (.t 1))), none⟩, ⟨(some 71), (.op (.mv (.t 2))), none⟩, ⟨(some 72), (.call (.f 171) [(.t 69), (.t 70), (.t 71)]), none⟩])
   (.cond (.t 72) .ret
   .skip))
   .skip))
   (.seq (.seq (.dreg (.quiet ⟨(some 73), (.op (.mv (.t 1))), none⟩ (.quiet ⟨(some 74), (.op (.bin .gtr (.t 73) (.k (.int .i64 0)))), none⟩ (.quiet ⟨(some 75), (.op (.mv (.t 74))), none⟩ (.quiet ⟨(some 76), (.op (.mv (.t 0))), (some (75, true))⟩ (.quiet ⟨(some 77), (.op (.mv (.t 1))), (some (75, true))⟩ (.quiet ⟨(some 78), (.op (.bin .sub (.t 77) (.k (.int .i64 1)))), (some (75, true))⟩ (.quiet ⟨(some 79), (.op (.iaddrS 1 (.t 76) (.t 78))), (some (75, true))⟩ (.quiet ⟨(some 80), (.op (.load (.t 79))), (some (75, true))⟩ (.quiet ⟨(some 81), (.op (.mv (.t 0))), (some (75, true))⟩ (.quiet ⟨(some 82), (.op (.mv (.t 11))), (some (75, true))⟩ (.quiet ⟨(some 83), (.op (.iaddrS 1 (.t 81) (.t 82))), (some (75, true))⟩ (.quiet ⟨(some 84), (.op (.load (.t 83))), (some (75, true))⟩ (.loud ⟨(some 85), (.call (.f 172) [(.t 80), (.t 84)]), (some (75, true))⟩ [] (.quiet ⟨(some 86), (.op (.un .not (.t 85))), (some (75, true))⟩ (.quiet ⟨(some 87), (.op (.pick (.t 75) (.t 86) (.k (.bool false)))), none⟩ .nil))))))))))))))))
   (.cond (.t 87) (.seq (.reg [⟨(some 88), (.op (.mv (.t 0))), none⟩, ⟨(some 89), (.op (.mv (.t 1))), none⟩, ⟨(some 90), (.op (.mv (.t 2))), none⟩, ⟨(some 91), (.op (.mv (.t 11))), none⟩, ⟨(some 92), (.call (.f 173) [(.t 88), (.t 89), (.t 90), (.t 91)]), none⟩, ⟨(some 13), (.op (.mv (.t 92))), none⟩])
   (.seq (.reg [⟨(some 93), (.op (.mv (.t 13))), none⟩, ⟨(some 1), (.op (.mv (.t 93))), none⟩])
   (.exit 1)))
   .skip))
   (.seq (.reg [⟨(some 95), (.op (.mv (.t 0))), none⟩, ⟨(some 96), (.op (.mv (.t 1))), none⟩, ⟨(some 97), (.op (.mv (.t 2))), none⟩, ⟨(some 98), (.op (.mv (.t 11))), none⟩, ⟨(some 99), (.call (.f 174) [(.t 95), (.t 96), (.t 97), (.t 98)]), none⟩, ⟨(some 94), (.op (.mv (.t 99))), none⟩, ⟨(some 100), (.op (.extract (.t 94) 0)), none⟩, ⟨(some 101), (.op (.extract (.t 94) 1)), none⟩, ⟨(some 14), (.op (.mv (.t 100))), none⟩, ⟨(some 15), (.op (.mv (.t 101))), none⟩])
   (.seq (.reg [⟨(some 102), (.op (.mv (.t 15))), none⟩, ⟨(some 9), (.op (.mv (.t 102))), none⟩])
   (.seq (.reg [⟨(some 103), (.op (.mv (.t 14))), none⟩, ⟨(some 104), (.op (.mv (.t 1))), none⟩, ⟨(some 105), (.op (.bin .sub (.t 103) (.t 104))), none⟩, ⟨(some 106), (.op (.mv (.t 2))), none⟩, ⟨(some 107), (.op (.mv (.t 14))), none⟩, ⟨(some 108), (.op (.bin .sub (.t 106) (.t 107))), none⟩, ⟨(some 16), (.op (.mv (.t 105))), none⟩, ⟨(some 17), (.op (.mv (.t 108))), none⟩])
   (.seq (.reg [⟨(some 109), (.op (.mv (.t 10))), none⟩, ⟨(some 110), (.op (.bin .quo (.t 109) (.k (.int .i64 8)))), none⟩, ⟨(some 18), (.op (.mv (.t 110))), none⟩])
   (.seq (.reg [⟨(some 111), (.op (.mv (.t 16))), none⟩, ⟨(some 112), (.op (.mv (.t 17))), none⟩, ⟨(some 113), (.op (.bin .lss (.t 111) (.t 112))), none⟩])
   (.cond (.t 113) (.seq (.reg [⟨(some 114), (.op (.mv (.t 16))), none⟩, ⟨(some 115), (.op (.mv (.t 18))), none⟩, ⟨(some 116), (.op (.bin .geq (.t 114) (.t 115))), none⟩, ⟨(some 8), (.op (.mv (.t 116))), none⟩])
   (.seq (.reg [⟨(some 117), (.op (.mv (.t 0))), none⟩, ⟨(some 118), (.op (.mv (.t 1))), none⟩, ⟨(some 119), (.op (.mv (.t 14))), none⟩, ⟨(some 120), (.op (.mv (.t 3))), none⟩, ⟨(some 121), (.call (.f 114) [(.t 117), (.t 118), (.t 119), (.t 120)]), none⟩])
   (.reg [⟨(some 122), (.op (.mv (.t 14))), none⟩, ⟨(some 123), (.op (.bin .add (.t 122) (.k (.int .i64 1)))), none⟩, ⟨(some 1), (.op (.mv (.t 123))), none⟩])))
   (.seq (.reg [⟨(some 124), (.op (.mv (.t 17))), none⟩, ⟨(some 125), (.op (.mv (.t 18))), none⟩, ⟨(some 126), (.op (.bin .geq (.t 124) (.t 125))), none⟩, ⟨(some 8), (.op (.mv (.t 126))), none⟩])
   (.seq (.reg [⟨(some 127), (.op (.mv (.t 0))), none⟩, ⟨(some 128), (.op (.mv (.t 14))), none⟩, ⟨(some 129), (.op (.bin .add (.t 128) (.k (.int .i64 1)))), none⟩, ⟨(some 130), (.op (.mv (.t 2))), none⟩, ⟨(some 131), (.op (.mv (.t 3))), none⟩, ⟨(some 132), (.call (.f 114) [(.t 127), (.t 129), (.t 130), (.t 131)]), none⟩])
   (.reg [⟨(some 133), (.op (.mv (.t 14))), none⟩, ⟨(some 2), (.op (.mv (.t 133))), none⟩]))))))))))))))))))))))
def a114 : AF := ⟨134, [], .code b114, none⟩
theorem ok114 : AFOk Tryz.prog ext 114 a114 := .of Tryz.func114 (by kernel_rfl) (by kernel_rfl) (by kernel_rfl) (by kernel_rfl)
/-! 115: math/bits.Len -/
def b115 : AC :=
  (.seq (.reg [⟨(some 2), (.op (.mv (.k (.int .i64 0)))), none⟩])
  (.seq (.cond (.k (.bool false)) (.seq (.reg [⟨(some 3), (.op (.mv (.t 0))), none⟩, ⟨(some 4), (.op (.conv (.int .u32) (.t 3))), none⟩, ⟨(some 5), (.call (.f 175) [(.t 4)]), none⟩, ⟨(some 2), (.op (.mv (.t 5))), none⟩])
  .ret)
  .skip)
  (.seq (.reg [⟨(some 6), (.op (.mv (.t 0))), none⟩, ⟨(some 7), (.call (.f 176) [(.t 6)]), none⟩, ⟨(some 2), (.op (.mv (.t 7))), none⟩])
  .ret)))
def a115 : AF := ⟨8, [(.t 2)], .code b115, none⟩
theorem ok115 : AFOk Tryz.prog ext 115 a115 := .of Tryz.func115 (by kernel_rfl) (by kernel_rfl) (by kernel_rfl) (by kernel_rfl)
/-! 116: (*rowlock/stripes.Table).held -/
def b116 : AC :=
  (.seq (.reg [⟨(some 2), (.op (.box 80 (.t 0))), none⟩, ⟨(some 3), (.op (.box 3 (.t 1))), none⟩, ⟨(some 4), (.op (.mv (.k .nilFunc))), none⟩])
  (.seq (.reg [⟨(some 5), (.op (.mkfunc 177 [] [(.t 2), (.t 3)])), none⟩, ⟨(some 4), (.op (.mv (.t 5))), none⟩])
  .ret))
def a116 : AF := ⟨6, [(.t 4)], .code b116, none⟩
theorem ok116 : AFOk Tryz.prog ext 116 a116 := .of Tryz.func116 (by kernel_rfl) (by kernel_rfl) (by kernel_rfl) (by kernel_rfl)
/-! 131: rowlock/rowlockref06.New -/
def b131 : AC :=
  (.seq (.reg [⟨(some 0), (.op (.mv (.k (.pointer none)))), none⟩])
  (.seq (.reg [⟨(some 1), (.op (.build [(.slice none 0 0)] [])), none⟩, ⟨(some 2), (.op (.box 193 (.t 1))), none⟩, ⟨(some 0), (.op (.mv (.t 2))), none⟩])
  .ret))
def a131 : AF := ⟨3, [(.t 0)], .code b131, none⟩
theorem ok131 : AFOk Tryz.prog ext 131 a131 := .of Tryz.func131 (by kernel_rfl) (by kernel_rfl) (by kernel_rfl) (by kernel_rfl)
/-! 144: (*rowlock/rowlockref04.Table).Of -/
def b144 : AC :=
  (.seq (.reg [⟨(some 4), (.op (.mv (.k (.int .i64 0)))), none⟩])
  (.seq (.seq (.reg [⟨(some 5), (.op (.mv (.t 0))), none⟩, ⟨(some 6), (.op (.eq false .ptr (.t 5) (.k (.pointer none)))), none⟩, ⟨(some 7), (.op (.mv (.t 6))), none⟩, ⟨(some 8), (.op (.mv (.t 1))), (some (7, false))⟩, ⟨(some 9), (.op (.bin .lss (.t 8) (.k (.int .i64 0)))), (some (7, false))⟩, ⟨(some 10), (.op (.pick (.t 7) (.k (.bool true)) (.t 9))), none⟩, ⟨(some 11), (.op (.mv (.t 10))), none⟩, ⟨(some 12), (.op (.mv (.t 1))), (some (11, false))⟩, ⟨(some 13), (.op (.bin .geq (.t 12) (.k (.int .i64 12)))), (some (11, false))⟩, ⟨(some 14), (.op (.pick (.t 11) (.k (.bool true)) (.t 13))), none⟩])
  (.cond (.t 14) (.seq (.reg [⟨(some 4), (.op (.mv (.k (.int .i64 (-1))))), none⟩])
  .ret)
  .skip))
  (.seq (.reg [⟨(some 15), (.op (.mv (.t 1))), none⟩, ⟨(some 16), (.op (.bin .mul (.t 15) (.k (.int .i64 5)))), none⟩, ⟨(some 17), (.op (.bin .add (.t 16) (.k (.int .i64 3)))), none⟩, ⟨(some 18), (.op (.mv (.t 0))), none⟩, ⟨(some 19), (.op (.nilchk (.t 18))), none⟩, ⟨(some 20), (.op (.faddr 0 (.t 19))), none⟩, ⟨(some 21), (.op (.load (.t 20))), none⟩, ⟨(some 22), (.op (.lenS (.t 21))), none⟩, ⟨(some 23), (.op (.bin .rem (.t 17) (.t 22))), none⟩, ⟨(some 4), (.op (.mv (.t 23))), none⟩])
  .ret)))
def a144 : AF := ⟨24, [(.t 4)], .code b144, none⟩
theorem ok144 : AFOk Tryz.prog ext 144 a144 := .of Tryz.func144 (by kernel_rfl) (by kernel_rfl) (by kernel_rfl) (by kernel_rfl)
/-! 148: (*rowlock/stripes.Table).may -/
def b148 : AC :=
  (.seq (.reg [⟨(some 4), (.op (.mv (.k (.int .i64 0)))), none⟩])
  (.seq (.block 0 (.seq (.reg [⟨(some 6), (.op (.mv (.t 0))), none⟩, ⟨(some 7), (.op (.eq false .ptr (.t 6) (.k (.pointer none)))), none⟩, ⟨(some 5), (.op (.mv (.t 7))), none⟩])
  (.cond (.t 5) (.seq (.reg [⟨(some 4), (.op (.mv (.k (.int .i64 1)))), none⟩])
  .ret)
  (.seq (.reg [⟨(some 9), (.op (.mv (.t 1))), none⟩, ⟨(some 10), (.op (.bin .lss (.t 9) (.k (.int .i64 0)))), none⟩, ⟨(some 11), (.op (.mv (.t 10))), none⟩, ⟨(some 12), (.op (.mv (.t 1))), (some (11, false))⟩, ⟨(some 13), (.op (.mv (.t 0))), (some (11, false))⟩, ⟨(some 14), (.op (.nilchk (.t 13))), (some (11, false))⟩, ⟨(some 15), (.op (.faddr 1 (.t 14))), (some (11, false))⟩, ⟨(some 16), (.op (.load (.t 15))), (some (11, false))⟩, ⟨(some 17), (.op (.lenS (.t 16))), (some (11, false))⟩, ⟨(some 18), (.op (.bin .geq (.t 12) (.t 17))), (some (11, false))⟩, ⟨(some 19), (.op (.pick (.t 11) (.k (.bool true)) (.t 18))), none⟩, ⟨(some 8), (.op (.mv (.t 19))), none⟩])
  (.cond (.t 8) (.seq (.reg [⟨(some 4), (.op (.mv (.k (.int .i64 2)))), none⟩])
  .ret)
  .skip)))))
  (.seq (.reg [⟨(some 4), (.op (.mv (.k (.int .i64 0)))), none⟩])
  .ret)))
def a148 : AF := ⟨20, [(.t 4)], .code b148, none⟩
theorem ok148 : AFOk Tryz.prog ext 148 a148 := .of Tryz.func148 (by kernel_rfl) (by kernel_rfl) (by kernel_rfl) (by kernel_rfl)
/-! 149: rowlock/lockword.split -/
def b149 : AC :=
  (.seq (.reg [⟨(some 2), (.op (.alloc 209 [(.int .i64 0), (.int .u64 0)])), none⟩, ⟨(some 3), (.op (.mv (.k (.bool false)))), none⟩])
  (.seq (.reg [⟨(some 7), (.op (.mv (.t 0))), none⟩, ⟨(some 8), (.call (.f 204) [(.t 7)]), none⟩, ⟨(some 4), (.op (.alloc 250 [(.bool false), (.bool false), (.bool false), (.bool false), (.bool false)])), none⟩, ⟨none, (.op (.store 5 (.t 4) (.t 8))), none⟩])
  (.seq (.reg [⟨(some 9), (.op (.mv (.t 0))), none⟩, ⟨(some 10), (.op (.bin .shr (.t 9) (.k (.int .u64 5)))), none⟩, ⟨(some 11), (.op (.build [(.int .i64 0), (.int .u64 0)] [(0, 1, (.k (.int .i64 (-1)))), (1, 1, (.t 10))])), none⟩, ⟨(some 5), (.op (.alloc 209 [(.int .i64 0), (.int .u64 0)])), none⟩, ⟨none, (.op (.store 2 (.t 5) (.t 11))), none⟩])
  (.seq (.seq (.reg [⟨(some 12), (.op (.loadN 5 (.t 4))), none⟩, ⟨(some 13), (.op (.build [(.bool false), (.bool false), (.bool false), (.bool false), (.bool false)] [])), none⟩, ⟨(some 14), (.op (.eq true (.ar 5 1 false .bool) (.t 12) (.t 13))), none⟩])
  (.cond (.t 14) (.seq (.reg [⟨(some 15), (.op (.faddr 0 (.t 5))), none⟩, ⟨none, (.op (.store 1 (.t 15) (.k (.int .i64 0)))), none⟩])
  (.seq (.seq (.reg [⟨(some 16), (.op (.mv (.k (.int .i64 0)))), none⟩])
  (.block 0 (.loop (.seq (.reg [⟨(some 17), (.op (.bin .lss (.t 16) (.k (.int .i64 4)))), none⟩])
   (.seq (.cond (.t 17) .skip
   (.exit 0))
   (.seq (.block 1 (.seq (.reg [⟨(some 18), (.op (.mv (.t 16))), none⟩, ⟨(some 6), (.op (.mv (.t 18))), none⟩])
   (.seq (.reg [⟨(some 19), (.op (.mv (.t 6))), none⟩, ⟨(some 20), (.op (.bin .add (.t 19) (.k (.int .i64 1)))), none⟩, ⟨(some 21), (.op (.iaddrA 5 1 (.t 4) (.t 20))), none⟩, ⟨(some 22), (.op (.load (.t 21))), none⟩])
   (.cond (.t 22) (.dreg (.quiet ⟨(some 23), (.op (.faddr 0 (.t 5))), none⟩ (.quiet ⟨(some 24), (.op (.load (.t 23))), none⟩ (.quiet ⟨(some 25), (.op (.mv (.t 6))), none⟩ (.quiet ⟨(some 26), (.op (.bin .shl (.k (.int .i64 1)) (.t 25))), none⟩ (.quiet ⟨(some 27), (.op (.bin .or (.t 24) (.t 26))), none⟩ (.quiet ⟨(some 28), (.op (.faddr 0 (.t 5))), none⟩ (.loud ⟨none, (.op (.store 1 (.t 28) (.t 27))), none⟩ [] .nil))))))))
   .skip))))
   (.reg [⟨(some 29), (.op (.bin .add (.t 16) (.k (.int .i64 1)))), none⟩, ⟨(some 16), (.op (.mv (.t 29))), none⟩])))))))
  (.seq (.reg [⟨(some 30), (.op (.iaddrA 5 1 (.t 4) (.k (.int .i64 0)))), none⟩, ⟨(some 31), (.op (.load (.t 30))), none⟩, ⟨(some 32), (.op (.un .not (.t 31))), none⟩])
  (.cond (.t 32) (.seq (.reg [⟨(some 33), (.op (.build [(.int .i64 0), (.int .u64 0)] [])), none⟩, ⟨none, (.op (.store 2 (.t 2) (.t 33))), none⟩, ⟨(some 3), (.op (.mv (.k (.bool false)))), none⟩])
  .ret)
  .skip))))
  .skip))
  (.seq (.dreg (.quiet ⟨(some 34), (.op (.loadN 2 (.t 5))), none⟩ (.quiet ⟨(some 35), (.op (.loadN 2 (.t 5))), none⟩ (.loud ⟨(some 36), (.call (.f 205) [(.t 35)]), none⟩ [⟨(some 34), (.op (.loadN 2 (.t 5))), none⟩] (.loud ⟨none, (.op (.store 2 (.t 2) (.t 34))), none⟩ [] (.loud ⟨(some 3), (.op (.mv (.t 36))), none⟩ [] .nil))))))
  .ret)))))
def a149 : AF := ⟨37, [(.c 2 true 2), (.t 3)], .code b149, none⟩
theorem ok149 : AFOk Tryz.prog ext 149 a149 := .of Tryz.func149 (by kernel_rfl) (by kernel_rfl) (by kernel_rfl) (by kernel_rfl)
/-! 150: (*rowlock/tl2.Engine).got -/
def b150 : AC :=
  (.seq (.reg [⟨(some 6), (.op (.alloc 41 [(.bool false), (.int .u64 0), (.bool false), (.int .i64 0), (.bool false), (.int .u8 0), (.int .i64 0)])), none⟩])
  (.seq (.reg [⟨(some 7), (.op (.mv (.t 0))), none⟩, ⟨(some 8), (.op (.mv (.t 1))), none⟩, ⟨(some 9), (.op (.mv (.t 1))), none⟩, ⟨(some 10), (.op (.nilchk (.t 9))), none⟩, ⟨(some 11), (.op (.faddr 5 (.t 10))), none⟩, ⟨(some 12), (.op (.faddr 1 (.t 11))), none⟩, ⟨(some 13), (.op (.load (.t 12))), none⟩, ⟨(some 14), (.op (.mv (.t 2))), none⟩, ⟨(some 15), (.op (.build [(.int .i64 0), (.int .u64 0)] [(0, 1, (.t 13)), (1, 1, (.t 14))])), none⟩, ⟨(some 16), (.call (.f 50) [(.t 7), (.k (.int .u8 2)), (.t 8), (.t 15)]), none⟩])
  (.seq (.reg [⟨(some 17), (.op (.mv (.t 1))), none⟩, ⟨(some 18), (.call (.f 162) [(.t 17)]), none⟩])
  (.seq (.reg [⟨(some 19), (.op (.mv (.t 2))), none⟩, ⟨(some 20), (.op (.build [(.bool false), (.int .u64 0), (.bool false), (.int .i64 0), (.bool false), (.int .u8 0), (.int .i64 0)] [(0, 1, (.k (.bool true))), (1, 1, (.t 19))])), none⟩, ⟨none, (.op (.store 7 (.t 6) (.t 20))), none⟩])
  .ret))))
def a150 : AF := ⟨21, [(.c 6 true 7)], .code b150, none⟩
theorem ok150 : AFOk Tryz.prog ext 150 a150 := .of Tryz.func150 (by kernel_rfl) (by kernel_rfl) (by kernel_rfl) (by kernel_rfl)
/-! 151: (*rowlock/tl2.Engine).other -/
def b151 : AC :=
  (.seq (.reg [⟨(some 6), (.op (.alloc 41 [(.bool false), (.int .u64 0), (.bool false), (.int .i64 0), (.bool false), (.int .u8 0), (.int .i64 0)])), none⟩, ⟨(some 7), (.op (.mv (.k (.bool false)))), none⟩])
  (.seq (.reg [⟨(some 11), (.op (.mv (.t 0))), none⟩, ⟨(some 12), (.op (.nilchk (.t 11))), none⟩, ⟨(some 13), (.op (.faddr 0 (.t 12))), none⟩, ⟨(some 14), (.op (.load (.t 13))), none⟩, ⟨(some 15), (.op (.mv (.t 2))), none⟩, ⟨(some 16), (.call (.f 206) [(.t 14), (.t 15)]), none⟩, ⟨(some 10), (.op (.mv (.t 16))), none⟩, ⟨(some 17), (.op (.extract (.t 10) 0)), none⟩, ⟨(some 18), (.op (.extract (.t 10) 1)), none⟩, ⟨(some 8), (.op (.mv (.t 17))), none⟩, ⟨(some 9), (.op (.mv (.t 18))), none⟩])
  (.seq (.seq (.reg [⟨(some 19), (.op (.mv (.t 9))), none⟩, ⟨(some 20), (.op (.un .not (.t 19))), none⟩, ⟨(some 21), (.op (.mv (.t 20))), none⟩, ⟨(some 22), (.op (.mv (.t 8))), (some (21, false))⟩, ⟨(some 23), (.op (.mv (.t 1))), (some (21, false))⟩, ⟨(some 24), (.op (.bin .eql (.t 22) (.t 23))), (some (21, false))⟩, ⟨(some 25), (.op (.pick (.t 21) (.k (.bool true)) (.t 24))), none⟩])
  (.cond (.t 25) (.seq (.reg [⟨(some 26), (.op (.build [(.bool false), (.int .u64 0), (.bool false), (.int .i64 0), (.bool false), (.int .u8 0), (.int .i64 0)] [])), none⟩, ⟨none, (.op (.store 7 (.t 6) (.t 26))), none⟩, ⟨(some 7), (.op (.mv (.k (.bool false)))), none⟩])
  .ret)
  .skip))
  (.seq (.reg [⟨(some 27), (.op (.mv (.t 8))), none⟩, ⟨(some 28), (.op (.build [(.bool false), (.int .u64 0), (.bool false), (.int .i64 0), (.bool false), (.int .u8 0), (.int .i64 0)] [(2, 1, (.k (.bool true))), (3, 1, (.t 27))])), none⟩, ⟨none, (.op (.store 7 (.t 6) (.t 28))), none⟩, ⟨(some 7), (.op (.mv (.k (.bool true)))), none⟩])
  .ret))))
def a151 : AF := ⟨29, [(.c 6 true 7), (.t 7)], .code b151, none⟩
theorem ok151 : AFOk Tryz.prog ext 151 a151 := .of Tryz.func151 (by kernel_rfl) (by kernel_rfl) (by kernel_rfl) (by kernel_rfl)
/-! 152: (*rowlock/stripes.Table).Version -/
def b152 : AC :=
  (.seq (.reg [⟨(some 4), (.op (.mv (.k (.int .u64 0)))), none⟩])
  (.seq (.seq (.reg [⟨(some 8), (.op (.mv (.t 0))), none⟩, ⟨(some 9), (.op (.mv (.t 1))), none⟩, ⟨(some 10), (.call (.f 148) [(.t 8), (.t 9)]), none⟩, ⟨(some 11), (.op (.bin .neq (.t 10) (.k (.int .i64 0)))), none⟩])
  (.cond (.t 11) (.seq (.reg [⟨(some 4), (.op (.mv (.k (.int .u64 0)))), none⟩])
  .ret)
  .skip))
  (.seq (.reg [⟨(some 13), (.op (.mv (.t 0))), none⟩, ⟨(some 14), (.op (.nilchk (.t 13))), none⟩, ⟨(some 15), (.op (.faddr 1 (.t 14))), none⟩, ⟨(some 16), (.op (.load (.t 15))), none⟩, ⟨(some 17), (.op (.mv (.t 1))), none⟩, ⟨(some 18), (.op (.iaddrS 1 (.t 16) (.t 17))), none⟩, ⟨(some 19), (.op (.load (.t 18))), none⟩, ⟨(some 20), (.call (.f 178) [(.t 19)]), none⟩, ⟨(some 12), (.op (.mv (.t 20))), none⟩, ⟨(some 21), (.op (.extract (.t 12) 0)), none⟩, ⟨(some 22), (.op (.extract (.t 12) 1)), none⟩, ⟨(some 23), (.op (.extract (.t 12) 2)), none⟩, ⟨(some 5), (.op (.mv (.t 21))), none⟩, ⟨(some 6), (.op (.mv (.t 22))), none⟩, ⟨(some 7), (.op (.mv (.t 23))), none⟩])
  (.seq (.reg [⟨(some 24), (.op (.mv (.t 6))), none⟩, ⟨(some 4), (.op (.mv (.t 24))), none⟩])
  .ret))))
def a152 : AF := ⟨25, [(.t 4)], .code b152, none⟩
theorem ok152 : AFOk Tryz.prog ext 152 a152 := .of Tryz.func152 (by kernel_rfl) (by kernel_rfl) (by kernel_rfl) (by kernel_rfl)
/-! 153: (*rowlock/reads.Set).Add -/
def b153 : AC :=
  (.seq (.reg [⟨(some 3), (.op (.box 191 (.t 1))), none⟩, ⟨(some 4), (.op (.mv (.k (.int .i64 0)))), none⟩])
  (.seq (.block 0 (.seq (.reg [⟨(some 8), (.op (.mv (.t 0))), none⟩, ⟨(some 9), (.op (.eq false .ptr (.t 8) (.k (.pointer none)))), none⟩, ⟨(some 7), (.op (.mv (.t 9))), none⟩])
  (.cond (.t 7) (.seq (.reg [⟨(some 4), (.op (.mv (.k (.int .i64 1)))), none⟩])
  .ret)
  (.seq (.reg [⟨(some 11), (.op (.faddr 0 (.t 3))), none⟩, ⟨(some 12), (.op (.load (.t 11))), none⟩, ⟨(some 13), (.op (.bin .lss (.t 12) (.k (.int .i64 0)))), none⟩, ⟨(some 14), (.op (.mv (.t 13))), none⟩, ⟨(some 15), (.op (.faddr 0 (.t 3))), (some (14, false))⟩, ⟨(some 16), (.op (.load (.t 15))), (some (14, false))⟩, ⟨(some 17), (.op (.bin .geq (.t 16) (.k (.int .i64 12)))), (some (14, false))⟩, ⟨(some 18), (.op (.pick (.t 14) (.k (.bool true)) (.t 17))), none⟩, ⟨(some 19), (.op (.mv (.t 18))), none⟩, ⟨(some 20), (.op (.faddr 2 (.t 3))), (some (19, false))⟩, ⟨(some 21), (.op (.load (.t 20))), (some (19, false))⟩, ⟨(some 22), (.op (.bin .gtr (.t 21) (.k (.int .u64 1099511627776)))), (some (19, false))⟩, ⟨(some 23), (.op (.pick (.t 19) (.k (.bool true)) (.t 22))), none⟩, ⟨(some 10), (.op (.mv (.t 23))), none⟩])
  (.cond (.t 10) (.seq (.reg [⟨(some 4), (.op (.mv (.k (.int .i64 2)))), none⟩])
  .ret)
  (.seq (.reg [⟨(some 25), (.op (.faddr 1 (.t 3))), none⟩, ⟨(some 26), (.op (.load (.t 25))), none⟩, ⟨(some 27), (.call (.f 43) [(.t 26)]), none⟩, ⟨(some 28), (.op (.un .not (.t 27))), none⟩, ⟨(some 24), (.op (.mv (.t 28))), none⟩])
  (.cond (.t 24) (.seq (.reg [⟨(some 4), (.op (.mv (.k (.int .i64 3)))), none⟩])
  .ret)
  .skip)))))))
  (.seq (.seq (.dreg (.quiet ⟨(some 30), (.op (.mv (.t 0))), none⟩ (.quiet ⟨(some 31), (.op (.nilchk (.t 30))), none⟩ (.quiet ⟨(some 32), (.op (.faddr 1 (.t 31))), none⟩ (.quiet ⟨(some 33), (.op (.load (.t 32))), none⟩ (.quiet ⟨(some 34), (.op (.faddr 0 (.t 3))), none⟩ (.quiet ⟨(some 35), (.op (.load (.t 34))), none⟩ (.quiet ⟨(some 36), (.op (.lookup false (.agg #[(.int .i64 0), (.int .u64 0), (.int .u64 0)]) true (.t 33) (.t 35))), none⟩ (.quiet ⟨(some 29), (.op (.mv (.t 36))), none⟩ (.quiet ⟨(some 37), (.op (.extract (.t 29) 0)), none⟩ (.quiet ⟨(some 38), (.op (.extract (.t 29) 1)), none⟩ (.loud ⟨(some 5), (.op (.alloc 191 [(.int .i64 0), (.int .u64 0), (.int .u64 0)])), none⟩ [⟨(some 36), (.op (.lookup false (.agg #[(.int .i64 0), (.int .u64 0), (.int .u64 0)]) true (.t 33) (.t 35))), none⟩, ⟨(some 35), (.op (.load (.t 34))), none⟩, ⟨(some 33), (.op (.load (.t 32))), none⟩] (.loud ⟨none, (.op (.store 3 (.t 5) (.t 37))), none⟩ [] (.loud ⟨(some 6), (.op (.mv (.t 38))), none⟩ [] .nil))))))))))))))
  (.seq (.reg [⟨(some 39), (.op (.mv (.t 6))), none⟩])
  (.cond (.t 39) (.seq (.reg [⟨(some 4), (.op (.mv (.k (.int .i64 0)))), none⟩])
  .ret)
  .skip)))
  (.seq (.seq (.reg [⟨(some 40), (.op (.mv (.t 0))), none⟩, ⟨(some 41), (.op (.nilchk (.t 40))), none⟩, ⟨(some 42), (.op (.faddr 0 (.t 41))), none⟩, ⟨(some 43), (.op (.load (.t 42))), none⟩, ⟨(some 44), (.op (.lenS (.t 43))), none⟩, ⟨(some 45), (.op (.bin .geq (.t 44) (.k (.int .i64 8)))), none⟩])
  (.cond (.t 45) (.seq (.reg [⟨(some 4), (.op (.mv (.k (.int .i64 4)))), none⟩])
  .ret)
  .skip))
  (.seq (.dreg (.quiet ⟨(some 46), (.op (.mv (.t 0))), none⟩ (.quiet ⟨(some 47), (.op (.mv (.t 0))), none⟩ (.quiet ⟨(some 48), (.op (.nilchk (.t 47))), none⟩ (.quiet ⟨(some 49), (.op (.faddr 0 (.t 48))), none⟩ (.quiet ⟨(some 50), (.op (.load (.t 49))), none⟩ (.quiet ⟨(some 51), (.op (.faddr 0 (.t 3))), none⟩ (.quiet ⟨(some 52), (.op (.load (.t 51))), none⟩ (.loud ⟨(some 53), (.op (.bslice 3 [(.int .i64 0)] 1 [(0, 1, (.t 52))])), none⟩ [⟨(some 50), (.op (.load (.t 49))), none⟩] (.loud ⟨(some 54), (.op (.append 3 1 8 (.t 50) (.t 53))), none⟩ [] (.quiet ⟨(some 55), (.op (.nilchk (.t 46))), none⟩ (.quiet ⟨(some 56), (.op (.faddr 0 (.t 55))), none⟩ (.loud ⟨none, (.op (.store 1 (.t 56) (.t 54))), none⟩ [] .nil)))))))))))))
  (.seq (.dreg (.quiet ⟨(some 57), (.op (.mv (.t 0))), none⟩ (.quiet ⟨(some 58), (.op (.nilchk (.t 57))), none⟩ (.quiet ⟨(some 59), (.op (.faddr 1 (.t 58))), none⟩ (.quiet ⟨(some 60), (.op (.load (.t 59))), none⟩ (.quiet ⟨(some 61), (.op (.faddr 0 (.t 3))), none⟩ (.quiet ⟨(some 62), (.op (.load (.t 61))), none⟩ (.quiet ⟨(some 63), (.op (.loadN 3 (.t 3))), none⟩ (.loud ⟨none, (.op (.mapupd false (.t 60) (.t 62) (.t 63))), none⟩ [] .nil)))))))))
  (.seq (.reg [⟨(some 4), (.op (.mv (.k (.int .i64 0)))), none⟩])
  .ret)))))))
def a153 : AF := ⟨64, [(.t 4)], .code b153, none⟩
theorem ok153 : AFOk Tryz.prog ext 153 a153 := .of Tryz.func153 (by kernel_rfl) (by kernel_rfl) (by kernel_rfl) (by kernel_rfl)
/-! 154: (*rowlock/tl2.Engine).lock -/
def b154 : AC :=
  (.seq (.reg [⟨(some 6), (.op (.alloc 41 [(.bool false), (.int .u64 0), (.bool false), (.int .i64 0), (.bool false), (.int .u8 0), (.int .i64 0)])), none⟩])
  (.seq (.reg [⟨(some 14), (.op (.mv (.t 0))), none⟩, ⟨(some 15), (.op (.nilchk (.t 14))), none⟩, ⟨(some 16), (.op (.faddr 0 (.t 15))), none⟩, ⟨(some 17), (.op (.load (.t 16))), none⟩, ⟨(some 18), (.op (.mv (.t 1))), none⟩, ⟨(some 19), (.call (.f 58) [(.t 17), (.t 18)]), none⟩, ⟨(some 7), (.op (.mv (.t 19))), none⟩])
  (.seq (.seq (.reg [⟨(some 20), (.op (.mv (.t 0))), none⟩, ⟨(some 21), (.op (.mv (.t 2))), none⟩, ⟨(some 22), (.call (.f 207) [(.t 20), (.t 21)]), none⟩, ⟨(some 23), (.op (.lenS (.t 22))), none⟩, ⟨(some 24), (.op (.mv (.k (.int .i64 0)))), none⟩])
  (.block 0 (.loop (.seq (.reg [⟨(some 25), (.op (.bin .lss (.t 24) (.t 23))), none⟩])
   (.seq (.cond (.t 25) .skip
   (.exit 0))
   (.seq (.block 1 (.seq (.reg [⟨(some 26), (.op (.iaddrS 1 (.t 22) (.t 24))), none⟩, ⟨(some 27), (.op (.load (.t 26))), none⟩, ⟨(some 9), (.op (.mv (.t 27))), none⟩])
   (.seq (.seq (.reg [⟨(some 28), (.op (.mv (.t 7))), none⟩, ⟨(some 29), (.op (.mv (.t 9))), none⟩, ⟨(some 30), (.call (.f 208) [(.t 28), (.t 29)]), none⟩])
   (.cond (.t 30) (.exit 1)
   .skip))
   (.seq (.reg [⟨(some 32), (.op (.mv (.t 0))), none⟩, ⟨(some 33), (.op (.mv (.t 1))), none⟩, ⟨(some 34), (.op (.mv (.t 9))), none⟩, ⟨(some 35), (.call (.f 151) [(.t 32), (.t 33), (.t 34)]), none⟩, ⟨(some 31), (.op (.mv (.t 35))), none⟩, ⟨(some 36), (.op (.extract (.t 31) 0)), none⟩, ⟨(some 37), (.op (.extract (.t 31) 1)), none⟩, ⟨(some 10), (.op (.alloc 41 [(.bool false), (.int .u64 0), (.bool false), (.int .i64 0), (.bool false), (.int .u8 0), (.int .i64 0)])), none⟩, ⟨none, (.op (.store 7 (.t 10) (.t 36))), none⟩, ⟨(some 11), (.op (.mv (.t 37))), none⟩])
   (.seq (.seq (.reg [⟨(some 38), (.op (.mv (.t 11))), none⟩, ⟨(some 39), (.op (.un .not (.t 38))), none⟩])
   (.cond (.t 39) (.reg [⟨(some 40), (.op (.mv (.t 0))), none⟩, ⟨(some 41), (.op (.nilchk (.t 40))), none⟩, ⟨(some 42), (.op (.faddr 0 (.t 41))), none⟩, ⟨(some 43), (.op (.load (.t 42))), none⟩, ⟨(some 44), (.op (.mv (.t 1))), none⟩, ⟨(some 45), (.op (.mv (.t 9))), none⟩, ⟨(some 46), (.call (.f 209) [(.t 43), (.t 44), (.t 45)]), none⟩])
   .skip))
   (.seq (.reg [⟨(some 47), (.op (.loadN 7 (.t 10))), none⟩, ⟨none, (.op (.store 7 (.t 6) (.t 47))), none⟩])
   .ret))))))
   (.reg [⟨(some 48), (.op (.bin .add (.t 24) (.k (.int .i64 1)))), none⟩, ⟨(some 24), (.op (.mv (.t 48))), none⟩])))))))
  (.seq (.reg [⟨(some 50), (.op (.mv (.t 0))), none⟩, ⟨(some 51), (.op (.nilchk (.t 50))), none⟩, ⟨(some 52), (.op (.faddr 0 (.t 51))), none⟩, ⟨(some 53), (.op (.load (.t 52))), none⟩, ⟨(some 54), (.call (.f 210) [(.t 53)]), none⟩, ⟨(some 49), (.op (.mv (.t 54))), none⟩, ⟨(some 55), (.op (.extract (.t 49) 0)), none⟩, ⟨(some 56), (.op (.extract (.t 49) 1)), none⟩, ⟨(some 12), (.op (.mv (.t 55))), none⟩, ⟨(some 13), (.op (.mv (.t 56))), none⟩])
  (.seq (.seq (.reg [⟨(some 57), (.op (.mv (.t 13))), none⟩, ⟨(some 58), (.op (.bin .neq (.t 57) (.k (.int .i64 0)))), none⟩])
  (.cond (.t 58) (.seq (.reg [⟨(some 59), (.op (.mv (.t 0))), none⟩, ⟨(some 60), (.op (.mv (.t 1))), none⟩, ⟨(some 61), (.call (.f 56) [(.t 59), (.t 60), (.k (.int .u8 2))]), none⟩, ⟨none, (.op (.store 7 (.t 6) (.t 61))), none⟩])
  .ret)
  .skip))
  (.seq (.reg [⟨(some 62), (.op (.mv (.t 2))), none⟩, ⟨(some 63), (.op (.mv (.t 2))), none⟩, ⟨(some 64), (.op (.mv (.t 2))), none⟩, ⟨(some 65), (.op (.mv (.t 12))), none⟩, ⟨(some 66), (.op (.nilchk (.t 62))), none⟩, ⟨(some 67), (.op (.faddr 4 (.t 66))), none⟩, ⟨none, (.op (.store 1 (.t 67) (.t 65))), none⟩, ⟨(some 68), (.op (.nilchk (.t 63))), none⟩, ⟨(some 69), (.op (.faddr 8 (.t 68))), none⟩, ⟨none, (.op (.store 1 (.t 69) (.k (.int .i64 2)))), none⟩, ⟨(some 70), (.op (.nilchk (.t 64))), none⟩, ⟨(some 71), (.op (.faddr 9 (.t 70))), none⟩, ⟨none, (.op (.store 1 (.t 71) (.k (.int .i64 0)))), none⟩])
  (.seq (.reg [⟨(some 72), (.op (.build [(.bool false), (.int .u64 0), (.bool false), (.int .i64 0), (.bool false), (.int .u8 0), (.int .i64 0)] [])), none⟩, ⟨none, (.op (.store 7 (.t 6) (.t 72))), none⟩])
  .ret)))))))
def a154 : AF := ⟨73, [(.c 6 true 7)], .code b154, none⟩
theorem ok154 : AFOk Tryz.prog ext 154 a154 := .of Tryz.func154 (by kernel_rfl) (by kernel_rfl) (by kernel_rfl) (by kernel_rfl)
/-! 155: (*rowlock/tl2.Engine).check -/
def b155 : AC :=
  (.seq (.reg [⟨(some 6), (.op (.alloc 41 [(.bool false), (.int .u64 0), (.bool false), (.int .i64 0), (.bool false), (.int .u8 0), (.int .i64 0)])), none⟩])
  (.seq (.reg [⟨(some 10), (.op (.mv (.t 2))), none⟩, ⟨(some 11), (.op (.nilchk (.t 10))), none⟩, ⟨(some 12), (.op (.faddr 0 (.t 11))), none⟩, ⟨(some 13), (.op (.load (.t 12))), none⟩, ⟨(some 14), (.call (.f 98) [(.t 13)]), none⟩, ⟨(some 7), (.op (.mv (.t 14))), none⟩])
  (.seq (.seq (.reg [⟨(some 15), (.op (.mv (.t 2))), none⟩, ⟨(some 16), (.op (.nilchk (.t 15))), none⟩, ⟨(some 17), (.op (.faddr 9 (.t 16))), none⟩, ⟨(some 18), (.op (.load (.t 17))), none⟩, ⟨(some 19), (.op (.mv (.t 7))), none⟩, ⟨(some 20), (.op (.lenS (.t 19))), none⟩, ⟨(some 21), (.op (.bin .eql (.t 18) (.t 20))), none⟩])
  (.cond (.t 21) (.seq (.reg [⟨(some 22), (.op (.mv (.t 2))), none⟩, ⟨(some 23), (.op (.mv (.t 2))), none⟩, ⟨(some 24), (.op (.mv (.t 2))), none⟩, ⟨(some 25), (.op (.nilchk (.t 22))), none⟩, ⟨(some 26), (.op (.faddr 13 (.t 25))), none⟩, ⟨none, (.op (.store 1 (.t 26) (.k (.bool true)))), none⟩, ⟨(some 27), (.op (.nilchk (.t 23))), none⟩, ⟨(some 28), (.op (.faddr 8 (.t 27))), none⟩, ⟨none, (.op (.store 1 (.t 28) (.k (.int .i64 3)))), none⟩, ⟨(some 29), (.op (.nilchk (.t 24))), none⟩, ⟨(some 30), (.op (.faddr 9 (.t 29))), none⟩, ⟨none, (.op (.store 1 (.t 30) (.k (.int .i64 0)))), none⟩])
  (.seq (.dreg (.quiet ⟨(some 31), (.op (.mv (.t 0))), none⟩ (.quiet ⟨(some 32), (.op (.nilchk (.t 31))), none⟩ (.quiet ⟨(some 33), (.op (.faddr 7 (.t 32))), none⟩ (.quiet ⟨(some 34), (.op (.load (.t 33))), none⟩ (.quiet ⟨(some 35), (.op (.mv (.t 2))), none⟩ (.quiet ⟨(some 36), (.op (.nilchk (.t 35))), none⟩ (.quiet ⟨(some 37), (.op (.faddr 2 (.t 36))), none⟩ (.quiet ⟨(some 38), (.op (.load (.t 37))), none⟩ (.quiet ⟨(some 39), (.op (.mv (.t 2))), none⟩ (.quiet ⟨(some 40), (.op (.nilchk (.t 39))), none⟩ (.quiet ⟨(some 41), (.op (.faddr 4 (.t 40))), none⟩ (.quiet ⟨(some 42), (.op (.load (.t 41))), none⟩ (.quiet ⟨(some 43), (.op (.bin .mul (.k (.int .u64 2)) (.t 42))), none⟩ (.quiet ⟨(some 44), (.op (.iaddrS 3 (.t 34) (.t 38))), none⟩ (.quiet ⟨(some 45), (.op (.faddr 1 (.t 44))), none⟩ (.loud ⟨none, (.op (.store 1 (.t 45) (.t 43))), none⟩ [] .nil)))))))))))))))))
  (.seq (.reg [⟨(some 46), (.op (.build [(.bool false), (.int .u64 0), (.bool false), (.int .i64 0), (.bool false), (.int .u8 0), (.int .i64 0)] [])), none⟩, ⟨none, (.op (.store 7 (.t 6) (.t 46))), none⟩])
  .ret)))
  .skip))
  (.seq (.dreg (.quiet ⟨(some 48), (.op (.mv (.t 0))), none⟩ (.quiet ⟨(some 49), (.op (.nilchk (.t 48))), none⟩ (.quiet ⟨(some 50), (.op (.faddr 0 (.t 49))), none⟩ (.quiet ⟨(some 51), (.op (.load (.t 50))), none⟩ (.quiet ⟨(some 52), (.op (.mv (.t 0))), none⟩ (.quiet ⟨(some 53), (.op (.nilchk (.t 52))), none⟩ (.quiet ⟨(some 54), (.op (.faddr 0 (.t 53))), none⟩ (.quiet ⟨(some 55), (.op (.load (.t 54))), none⟩ (.quiet ⟨(some 56), (.op (.mv (.t 7))), none⟩ (.quiet ⟨(some 57), (.op (.mv (.t 2))), none⟩ (.quiet ⟨(some 58), (.op (.nilchk (.t 57))), none⟩ (.quiet ⟨(some 59), (.op (.faddr 9 (.t 58))), none⟩ (.quiet ⟨(some 60), (.op (.load (.t 59))), none⟩ (.quiet ⟨(some 61), (.op (.iaddrS 3 (.t 56) (.t 60))), none⟩ (.quiet ⟨(some 62), (.op (.faddr 0 (.t 61))), none⟩ (.quiet ⟨(some 63), (.op (.load (.t 62))), none⟩ (.loud ⟨(some 64), (.call (.f 103) [(.t 55), (.t 63)]), none⟩ [⟨(some 51), (.op (.load (.t 50))), none⟩] (.loud ⟨(some 65), (.call (.f 102) [(.t 51), (.t 64)]), none⟩ [] (.quiet ⟨(some 47), (.op (.mv (.t 65))), none⟩ (.quiet ⟨(some 66), (.op (.extract (.t 47) 0)), none⟩ (.quiet ⟨(some 67), (.op (.extract (.t 47) 1)), none⟩ (.loud ⟨(some 8), (.op (.mv (.t 66))), none⟩ [] (.loud ⟨(some 9), (.op (.mv (.t 67))), none⟩ [] .nil))))))))))))))))))))))))
  (.seq (.seq (.reg [⟨(some 68), (.op (.mv (.t 8))), none⟩, ⟨(some 69), (.op (.mv (.t 1))), none⟩, ⟨(some 70), (.op (.mv (.t 2))), none⟩, ⟨(some 71), (.op (.nilchk (.t 70))), none⟩, ⟨(some 72), (.op (.faddr 3 (.t 71))), none⟩, ⟨(some 73), (.op (.load (.t 72))), none⟩, ⟨(some 74), (.call (.f 104) [(.t 68), (.t 69), (.t 73)]), none⟩, ⟨(some 75), (.op (.un .not (.t 74))), none⟩])
  (.cond (.t 75) (.seq (.reg [⟨(some 76), (.op (.mv (.t 0))), none⟩, ⟨(some 77), (.op (.mv (.t 1))), none⟩, ⟨(some 78), (.call (.f 56) [(.t 76), (.t 77), (.k (.int .u8 1))]), none⟩, ⟨none, (.op (.store 7 (.t 6) (.t 78))), none⟩])
  .ret)
  .skip))
  (.seq (.reg [⟨(some 79), (.op (.mv (.t 2))), none⟩, ⟨(some 80), (.op (.nilchk (.t 79))), none⟩, ⟨(some 81), (.op (.faddr 9 (.t 80))), none⟩, ⟨(some 82), (.op (.load (.t 81))), none⟩, ⟨(some 83), (.op (.bin .add (.t 82) (.k (.int .i64 1)))), none⟩, ⟨(some 84), (.op (.nilchk (.t 79))), none⟩, ⟨(some 85), (.op (.faddr 9 (.t 84))), none⟩, ⟨none, (.op (.store 1 (.t 85) (.t 83))), none⟩])
  (.seq (.reg [⟨(some 86), (.op (.build [(.bool false), (.int .u64 0), (.bool false), (.int .i64 0), (.bool false), (.int .u8 0), (.int .i64 0)] [])), none⟩, ⟨none, (.op (.store 7 (.t 6) (.t 86))), none⟩])
  .ret)))))))
def a155 : AF := ⟨87, [(.c 6 true 7)], .code b155, none⟩
theorem ok155 : AFOk Tryz.prog ext 155 a155 := .of Tryz.func155 (by kernel_rfl) (by kernel_rfl) (by kernel_rfl) (by kernel_rfl)
/-! 156: (*rowlock/stripes.Table).Unlock -/
def b156 : AC :=
  (.seq (.reg [⟨(some 4), (.op (.box 80 (.t 0))), none⟩, ⟨(some 5), (.op (.box 3 (.t 1))), none⟩, ⟨(some 7), (.op (.box 29 (.t 3))), none⟩, ⟨(some 8), (.op (.mv (.k (.int .i64 0)))), none⟩])
  (.seq (.reg [⟨(some 9), (.op (.load (.t 4))), none⟩, ⟨(some 10), (.op (.mv (.t 2))), none⟩, ⟨(some 11), (.op (.mkfunc 212 [] [(.t 7), (.t 4), (.t 5)])), none⟩, ⟨(some 12), (.call (.f 211) [(.t 9), (.t 10), (.t 11)]), none⟩, ⟨(some 8), (.op (.mv (.t 12))), none⟩])
  .ret))
def a156 : AF := ⟨13, [(.t 8)], .code b156, none⟩
theorem ok156 : AFOk Tryz.prog ext 156 a156 := .of Tryz.func156 (by kernel_rfl) (by kernel_rfl) (by kernel_rfl) (by kernel_rfl)
/-! 157: (*rowlock/tl2.Engine).commit -/
def b157 : AC :=
  (.seq (.reg [⟨(some 4), (.op (.alloc 41 [(.bool false), (.int .u64 0), (.bool false), (.int .i64 0), (.bool false), (.int .u8 0), (.int .i64 0)])), none⟩])
  (.seq (.reg [⟨(some 5), (.op (.mv (.t 0))), none⟩, ⟨(some 6), (.op (.mv (.t 0))), none⟩, ⟨(some 7), (.op (.mv (.t 1))), none⟩, ⟨(some 8), (.op (.nilchk (.t 6))), none⟩, ⟨(some 9), (.op (.faddr 2 (.t 8))), none⟩, ⟨(some 10), (.op (.iaddrA 4 1 (.t 9) (.t 7))), none⟩, ⟨(some 11), (.op (.load (.t 10))), none⟩, ⟨(some 12), (.op (.build [(.int .i64 0), (.int .u64 0)] [])), none⟩, ⟨(some 13), (.call (.f 50) [(.t 5), (.k (.int .u8 8)), (.t 11), (.t 12)]), none⟩])
  (.seq (.reg [⟨(some 14), (.op (.mv (.t 0))), none⟩, ⟨(some 15), (.op (.mv (.t 1))), none⟩, ⟨(some 16), (.op (.nilchk (.t 14))), none⟩, ⟨(some 17), (.op (.faddr 2 (.t 16))), none⟩, ⟨(some 18), (.op (.iaddrA 4 1 (.t 17) (.t 15))), none⟩, ⟨none, (.op (.store 1 (.t 18) (.k (.pointer none)))), none⟩])
  (.seq (.reg [⟨(some 19), (.op (.build [(.bool false), (.int .u64 0), (.bool false), (.int .i64 0), (.bool false), (.int .u8 0), (.int .i64 0)] [(0, 1, (.k (.bool true))), (4, 1, (.k (.bool true)))])), none⟩, ⟨none, (.op (.store 7 (.t 4) (.t 19))), none⟩])
  .ret))))
def a157 : AF := ⟨20, [(.c 4 true 7)], .code b157, none⟩
theorem ok157 : AFOk Tryz.prog ext 157 a157 := .of Tryz.func157 (by kernel_rfl) (by kernel_rfl) (by kernel_rfl) (by kernel_rfl)
/-! 158: (*rowlock/writes.Log).Push -/
def b158 : AC :=
  (.seq (.reg [⟨(some 2), (.op (.mv (.k (.int .i64 0)))), none⟩])
  (.seq (.block 0 (.seq (.reg [⟨(some 4), (.op (.mv (.t 0))), none⟩, ⟨(some 5), (.op (.eq false .ptr (.t 4) (.k (.pointer none)))), none⟩, ⟨(some 3), (.op (.mv (.t 5))), none⟩])
  (.cond (.t 3) (.seq (.reg [⟨(some 2), (.op (.mv (.k (.int .i64 1)))), none⟩])
  .ret)
  (.seq (.reg [⟨(some 7), (.op (.mv (.t 0))), none⟩, ⟨(some 8), (.op (.nilchk (.t 7))), none⟩, ⟨(some 9), (.op (.faddr 1 (.t 8))), none⟩, ⟨(some 10), (.op (.load (.t 9))), none⟩, ⟨(some 11), (.op (.bin .geq (.t 10) (.k (.int .i64 4)))), none⟩, ⟨(some 6), (.op (.mv (.t 11))), none⟩])
  (.cond (.t 6) (.seq (.reg [⟨(some 2), (.op (.mv (.k (.int .i64 4)))), none⟩])
  .ret)
  .skip)))))
  (.seq (.reg [⟨(some 12), (.op (.mv (.t 0))), none⟩, ⟨(some 13), (.op (.mv (.t 0))), none⟩, ⟨(some 14), (.op (.nilchk (.t 13))), none⟩, ⟨(some 15), (.op (.faddr 0 (.t 14))), none⟩, ⟨(some 16), (.op (.load (.t 15))), none⟩, ⟨(some 17), (.call (.f 106) [(.t 16), (.k (.slice none 0 0))]), none⟩, ⟨(some 18), (.op (.nilchk (.t 12))), none⟩, ⟨(some 19), (.op (.faddr 0 (.t 18))), none⟩, ⟨none, (.op (.store 1 (.t 19) (.t 17))), none⟩])
  (.seq (.reg [⟨(some 20), (.op (.mv (.t 0))), none⟩, ⟨(some 21), (.op (.nilchk (.t 20))), none⟩, ⟨(some 22), (.op (.faddr 1 (.t 21))), none⟩, ⟨(some 23), (.op (.load (.t 22))), none⟩, ⟨(some 24), (.op (.bin .add (.t 23) (.k (.int .i64 1)))), none⟩, ⟨(some 25), (.op (.nilchk (.t 20))), none⟩, ⟨(some 26), (.op (.faddr 1 (.t 25))), none⟩, ⟨none, (.op (.store 1 (.t 26) (.t 24))), none⟩])
  (.seq (.reg [⟨(some 2), (.op (.mv (.k (.int .i64 0)))), none⟩])
  .ret)))))
def a158 : AF := ⟨27, [(.t 2)], .code b158, none⟩
theorem ok158 : AFOk Tryz.prog ext 158 a158 := .of Tryz.func158 (by kernel_rfl) (by kernel_rfl) (by kernel_rfl) (by kernel_rfl)
/-! 159: (*rowlock/writes.Log).Drop -/
def b159 : AC :=
  (.seq (.reg [⟨(some 2), (.op (.mv (.k (.int .i64 0)))), none⟩])
  (.seq (.reg [⟨(some 6), (.op (.mv (.t 0))), none⟩, ⟨(some 7), (.call (.f 214) [(.t 6)]), none⟩, ⟨(some 5), (.op (.mv (.t 7))), none⟩, ⟨(some 8), (.op (.extract (.t 5) 0)), none⟩, ⟨(some 9), (.op (.extract (.t 5) 1)), none⟩, ⟨(some 3), (.op (.mv (.t 8))), none⟩, ⟨(some 4), (.op (.mv (.t 9))), none⟩])
  (.seq (.reg [⟨(some 10), (.op (.mv (.t 4))), none⟩, ⟨(some 2), (.op (.mv (.t 10))), none⟩])
  .ret)))
def a159 : AF := ⟨11, [(.t 2)], .code b159, none⟩
theorem ok159 : AFOk Tryz.prog ext 159 a159 := .of Tryz.func159 (by kernel_rfl) (by kernel_rfl) (by kernel_rfl) (by kernel_rfl)
/-! 160: (*rowlock/writes.Log).Merge -/
def b160 : AC :=
  (.seq (.reg [⟨(some 2), (.op (.mv (.k (.int .i64 0)))), none⟩])
  (.seq (.reg [⟨(some 9), (.op (.mv (.t 0))), none⟩, ⟨(some 10), (.call (.f 214) [(.t 9)]), none⟩, ⟨(some 8), (.op (.mv (.t 10))), none⟩, ⟨(some 11), (.op (.extract (.t 8) 0)), none⟩, ⟨(some 12), (.op (.extract (.t 8) 1)), none⟩, ⟨(some 3), (.op (.mv (.t 11))), none⟩, ⟨(some 4), (.op (.mv (.t 12))), none⟩])
  (.seq (.seq (.reg [⟨(some 13), (.op (.mv (.t 4))), none⟩, ⟨(some 14), (.op (.bin .neq (.t 13) (.k (.int .i64 0)))), none⟩])
  (.cond (.t 14) (.seq (.reg [⟨(some 15), (.op (.mv (.t 4))), none⟩, ⟨(some 2), (.op (.mv (.t 15))), none⟩])
  .ret)
  .skip))
  (.seq (.reg [⟨(some 16), (.op (.mv (.t 0))), none⟩, ⟨(some 17), (.op (.nilchk (.t 16))), none⟩, ⟨(some 18), (.op (.faddr 0 (.t 17))), none⟩, ⟨(some 19), (.op (.load (.t 18))), none⟩, ⟨(some 20), (.op (.nilchk (.t 19))), none⟩, ⟨(some 21), (.op (.faddr 0 (.t 20))), none⟩, ⟨(some 22), (.op (.load (.t 21))), none⟩, ⟨(some 5), (.op (.mv (.t 22))), none⟩])
  (.seq (.seq (.reg [⟨(some 23), (.op (.mv (.t 3))), none⟩, ⟨(some 24), (.op (.lenS (.t 23))), none⟩, ⟨(some 25), (.op (.mv (.k (.int .i64 0)))), none⟩])
  (.block 0 (.loop (.seq (.reg [⟨(some 26), (.op (.bin .lss (.t 25) (.t 24))), none⟩])
   (.seq (.cond (.t 26) .skip
   (.exit 0))
   (.seq (.block 1 (.seq (.reg [⟨(some 27), (.op (.iaddrS 2 (.t 23) (.t 25))), none⟩, ⟨(some 28), (.op (.loadN 2 (.t 27))), none⟩, ⟨(some 7), (.op (.alloc 104 [(.int .i64 0), (.int .u64 0)])), none⟩, ⟨none, (.op (.store 2 (.t 7) (.t 28))), none⟩])
   (.reg [⟨(some 29), (.op (.mv (.t 5))), none⟩, ⟨(some 30), (.op (.loadN 2 (.t 7))), none⟩, ⟨(some 31), (.call (.f 215) [(.t 29), (.t 30)]), none⟩, ⟨(some 5), (.op (.mv (.t 31))), none⟩])))
   (.reg [⟨(some 32), (.op (.bin .add (.t 25) (.k (.int .i64 1)))), none⟩, ⟨(some 25), (.op (.mv (.t 32))), none⟩])))))))
  (.seq (.reg [⟨(some 33), (.op (.mv (.t 0))), none⟩, ⟨(some 34), (.op (.mv (.t 0))), none⟩, ⟨(some 35), (.op (.nilchk (.t 34))), none⟩, ⟨(some 36), (.op (.faddr 0 (.t 35))), none⟩, ⟨(some 37), (.op (.load (.t 36))), none⟩, ⟨(some 38), (.op (.nilchk (.t 37))), none⟩, ⟨(some 39), (.op (.faddr 1 (.t 38))), none⟩, ⟨(some 40), (.op (.load (.t 39))), none⟩, ⟨(some 41), (.op (.mv (.t 5))), none⟩, ⟨(some 42), (.call (.f 106) [(.t 40), (.t 41)]), none⟩, ⟨(some 43), (.op (.nilchk (.t 33))), none⟩, ⟨(some 44), (.op (.faddr 0 (.t 43))), none⟩, ⟨none, (.op (.store 1 (.t 44) (.t 42))), none⟩])
  (.seq (.reg [⟨(some 2), (.op (.mv (.k (.int .i64 0)))), none⟩])
  .ret)))))))
def a160 : AF := ⟨45, [(.t 2)], .code b160, none⟩
theorem ok160 : AFOk Tryz.prog ext 160 a160 := .of Tryz.func160 (by kernel_rfl) (by kernel_rfl) (by kernel_rfl) (by kernel_rfl)
/-! 161: (*rowlock/writes.Log).Put -/
def b161 : AC :=
  (.seq (.reg [⟨(some 6), (.op (.mv (.k (.int .i64 0)))), none⟩])
  (.seq (.block 0 (.seq (.reg [⟨(some 10), (.op (.mv (.t 0))), none⟩, ⟨(some 11), (.op (.eq false .ptr (.t 10) (.k (.pointer none)))), none⟩, ⟨(some 9), (.op (.mv (.t 11))), none⟩])
  (.cond (.t 9) (.seq (.reg [⟨(some 6), (.op (.mv (.k (.int .i64 1)))), none⟩])
  .ret)
  (.seq (.reg [⟨(some 13), (.op (.mv (.t 1))), none⟩, ⟨(some 14), (.op (.bin .lss (.t 13) (.k (.int .i64 0)))), none⟩, ⟨(some 15), (.op (.mv (.t 14))), none⟩, ⟨(some 16), (.op (.mv (.t 1))), (some (15, false))⟩, ⟨(some 17), (.op (.bin .geq (.t 16) (.k (.int .i64 12)))), (some (15, false))⟩, ⟨(some 18), (.op (.pick (.t 15) (.k (.bool true)) (.t 17))), none⟩, ⟨(some 12), (.op (.mv (.t 18))), none⟩])
  (.cond (.t 12) (.seq (.reg [⟨(some 6), (.op (.mv (.k (.int .i64 2)))), none⟩])
  .ret)
  (.seq (.reg [⟨(some 20), (.op (.mv (.t 2))), none⟩, ⟨(some 21), (.call (.f 43) [(.t 20)]), none⟩, ⟨(some 22), (.op (.un .not (.t 21))), none⟩, ⟨(some 19), (.op (.mv (.t 22))), none⟩])
  (.cond (.t 19) (.seq (.reg [⟨(some 6), (.op (.mv (.k (.int .i64 3)))), none⟩])
  .ret)
  .skip)))))))
  (.seq (.seq (.reg [⟨(some 24), (.op (.mv (.t 0))), none⟩, ⟨(some 25), (.op (.nilchk (.t 24))), none⟩, ⟨(some 26), (.op (.faddr 0 (.t 25))), none⟩, ⟨(some 27), (.op (.load (.t 26))), none⟩, ⟨(some 28), (.op (.nilchk (.t 27))), none⟩, ⟨(some 29), (.op (.faddr 0 (.t 28))), none⟩, ⟨(some 30), (.op (.load (.t 29))), none⟩, ⟨(some 31), (.op (.mv (.t 1))), none⟩, ⟨(some 32), (.call (.f 164) [(.t 30), (.t 31)]), none⟩, ⟨(some 23), (.op (.mv (.t 32))), none⟩, ⟨(some 33), (.op (.extract (.t 23) 0)), none⟩, ⟨(some 34), (.op (.extract (.t 23) 1)), none⟩, ⟨(some 7), (.op (.mv (.t 33))), none⟩, ⟨(some 8), (.op (.mv (.t 34))), none⟩])
  (.seq (.reg [⟨(some 35), (.op (.mv (.t 8))), none⟩, ⟨(some 36), (.op (.un .not (.t 35))), none⟩, ⟨(some 37), (.op (.mv (.t 36))), none⟩, ⟨(some 38), (.op (.mv (.t 0))), (some (37, true))⟩, ⟨(some 39), (.call (.f 216) [(.t 38)]), (some (37, true))⟩, ⟨(some 40), (.op (.bin .geq (.t 39) (.k (.int .i64 16)))), (some (37, true))⟩, ⟨(some 41), (.op (.pick (.t 37) (.t 40) (.k (.bool false)))), none⟩])
  (.cond (.t 41) (.seq (.reg [⟨(some 6), (.op (.mv (.k (.int .i64 4)))), none⟩])
  .ret)
  .skip)))
  (.seq (.dreg (.quiet ⟨(some 42), (.op (.mv (.t 0))), none⟩ (.quiet ⟨(some 43), (.op (.mv (.t 0))), none⟩ (.quiet ⟨(some 44), (.op (.nilchk (.t 43))), none⟩ (.quiet ⟨(some 45), (.op (.faddr 0 (.t 44))), none⟩ (.quiet ⟨(some 46), (.op (.load (.t 45))), none⟩ (.quiet ⟨(some 47), (.op (.nilchk (.t 46))), none⟩ (.quiet ⟨(some 48), (.op (.faddr 1 (.t 47))), none⟩ (.quiet ⟨(some 49), (.op (.load (.t 48))), none⟩ (.quiet ⟨(some 50), (.op (.mv (.t 0))), none⟩ (.quiet ⟨(some 51), (.op (.nilchk (.t 50))), none⟩ (.quiet ⟨(some 52), (.op (.faddr 0 (.t 51))), none⟩ (.quiet ⟨(some 53), (.op (.load (.t 52))), none⟩ (.quiet ⟨(some 54), (.op (.nilchk (.t 53))), none⟩ (.quiet ⟨(some 55), (.op (.faddr 0 (.t 54))), none⟩ (.quiet ⟨(some 56), (.op (.load (.t 55))), none⟩ (.quiet ⟨(some 57), (.op (.mv (.t 1))), none⟩ (.quiet ⟨(some 58), (.op (.mv (.t 2))), none⟩ (.quiet ⟨(some 59), (.op (.build [(.int .i64 0), (.int .u64 0)] [(0, 1, (.t 57)), (1, 1, (.t 58))])), none⟩ (.loud ⟨(some 60), (.call (.f 215) [(.t 56), (.t 59)]), none⟩ [⟨(some 49), (.op (.load (.t 48))), none⟩, ⟨(some 46), (.op (.load (.t 45))), none⟩] (.loud ⟨(some 61), (.call (.f 106) [(.t 49), (.t 60)]), none⟩ [] (.quiet ⟨(some 62), (.op (.nilchk (.t 42))), none⟩ (.quiet ⟨(some 63), (.op (.faddr 0 (.t 62))), none⟩ (.loud ⟨none, (.op (.store 1 (.t 63) (.t 61))), none⟩ [] .nil))))))))))))))))))))))))
  (.seq (.reg [⟨(some 6), (.op (.mv (.k (.int .i64 0)))), none⟩])
  .ret)))))
def a161 : AF := ⟨64, [(.t 6)], .code b161, none⟩
theorem ok161 : AFOk Tryz.prog ext 161 a161 := .of Tryz.func161 (by kernel_rfl) (by kernel_rfl) (by kernel_rfl) (by kernel_rfl)
/-! 162: (*rowlock/tl2.attempt).rest -/
def b162 : AC :=
  (.reg [⟨(some 2), (.op (.mv (.t 0))), none⟩, ⟨(some 3), (.op (.build [(.int .u8 0), (.int .i64 0), (.int .u64 0)] [])), none⟩, ⟨(some 4), (.op (.nilchk (.t 2))), none⟩, ⟨(some 5), (.op (.faddr 5 (.t 4))), none⟩, ⟨none, (.op (.store 3 (.t 5) (.t 3))), none⟩])
def a162 : AF := ⟨6, [], .code b162, none⟩
theorem ok162 : AFOk Tryz.prog ext 162 a162 := .of Tryz.func162 (by kernel_rfl) (by kernel_rfl) (by kernel_rfl) (by kernel_rfl)
/-! 163: (*rowlock/writes.stack[rowlock/writes.frame]).all -/
def b163 : AC :=
  (.seq (.reg [⟨(some 1), (.op (.box 164 (.t 0))), none⟩, ⟨(some 2), (.op (.mv (.k .nilFunc))), none⟩])
  (.seq (.reg [⟨(some 3), (.op (.mkfunc 217 [] [(.t 1)])), none⟩, ⟨(some 2), (.op (.mv (.t 3))), none⟩])
  .ret))
def a163 : AF := ⟨4, [(.t 2)], .code b163, none⟩
theorem ok163 : AFOk Tryz.prog ext 163 a163 := .of Tryz.func163 (by kernel_rfl) (by kernel_rfl) (by kernel_rfl) (by kernel_rfl)
/-! 164: (rowlock/writes.frame).get -/
def b164 : AC :=
  (.seq (.reg [⟨(some 4), (.op (.mv (.k (.int .u64 0)))), none⟩, ⟨(some 5), (.op (.mv (.k (.bool false)))), none⟩])
  (.seq (.seq (.reg [⟨(some 8), (.op (.mv (.t 0))), none⟩, ⟨(some 9), (.op (.lenS (.t 8))), none⟩, ⟨(some 10), (.op (.mv (.k (.int .i64 0)))), none⟩])
  (.block 0 (.loop (.seq (.reg [⟨(some 11), (.op (.bin .lss (.t 10) (.t 9))), none⟩])
   (.seq (.cond (.t 11) .skip
   (.exit 0))
   (.seq (.block 1 (.seq (.reg [⟨(some 12), (.op (.iaddrS 2 (.t 8) (.t 10))), none⟩, ⟨(some 13), (.op (.loadN 2 (.t 12))), none⟩, ⟨(some 7), (.op (.alloc 104 [(.int .i64 0), (.int .u64 0)])), none⟩, ⟨none, (.op (.store 2 (.t 7) (.t 13))), none⟩])
   (.seq (.reg [⟨(some 14), (.op (.faddr 0 (.t 7))), none⟩, ⟨(some 15), (.op (.load (.t 14))), none⟩, ⟨(some 16), (.op (.mv (.t 1))), none⟩, ⟨(some 17), (.op (.bin .eql (.t 15) (.t 16))), none⟩])
   (.cond (.t 17) (.seq (.reg [⟨(some 18), (.op (.faddr 1 (.t 7))), none⟩, ⟨(some 19), (.op (.load (.t 18))), none⟩, ⟨(some 4), (.op (.mv (.t 19))), none⟩, ⟨(some 5), (.op (.mv (.k (.bool true)))), none⟩])
   .ret)
   .skip))))
   (.reg [⟨(some 20), (.op (.bin .add (.t 10) (.k (.int .i64 1)))), none⟩, ⟨(some 10), (.op (.mv (.t 20))), none⟩])))))))
  (.seq (.reg [⟨(some 4), (.op (.mv (.k (.int .u64 0)))), none⟩, ⟨(some 5), (.op (.mv (.k (.bool false)))), none⟩])
  .ret)))
def a164 : AF := ⟨21, [(.t 4), (.t 5)], .code b164, none⟩
theorem ok164 : AFOk Tryz.prog ext 164 a164 := .of Tryz.func164 (by kernel_rfl) (by kernel_rfl) (by kernel_rfl) (by kernel_rfl)
/-! 165: (*rowlock/stripes.Table).Restore -/
def b165 : AC :=
  (.seq (.reg [⟨(some 4), (.op (.box 3 (.t 1))), none⟩, ⟨(some 6), (.op (.mv (.k (.int .i64 0)))), none⟩])
  (.seq (.reg [⟨(some 7), (.op (.mv (.t 0))), none⟩, ⟨(some 8), (.op (.mv (.t 2))), none⟩, ⟨(some 9), (.op (.mkfunc 218 [] [(.t 4)])), none⟩, ⟨(some 10), (.call (.f 211) [(.t 7), (.t 8), (.t 9)]), none⟩, ⟨(some 6), (.op (.mv (.t 10))), none⟩])
  .ret))
def a165 : AF := ⟨11, [(.t 6)], .code b165, none⟩
theorem ok165 : AFOk Tryz.prog ext 165 a165 := .of Tryz.func165 (by kernel_rfl) (by kernel_rfl) (by kernel_rfl) (by kernel_rfl)
/-! 166: slices.insertionSortOrdered[int] -/
def b166 : AC :=
  (.seq (.reg [⟨(some 8), (.op (.mv (.t 1))), none⟩, ⟨(some 9), (.op (.bin .add (.t 8) (.k (.int .i64 1)))), none⟩, ⟨(some 6), (.op (.mv (.t 9))), none⟩])
  (.block 0 (.loop (.seq (.seq (.reg [⟨(some 10), (.op (.mv (.t 6))), none⟩, ⟨(some 11), (.op (.mv (.t 2))), none⟩, ⟨(some 12), (.op (.bin .lss (.t 10) (.t 11))), none⟩])
   (.cond (.t 12) .skip
   (.exit 0)))
   (.seq (.block 1 (.seq (.reg [⟨(some 15), (.op (.mv (.t 6))), none⟩, ⟨(some 7), (.op (.mv (.t 15))), none⟩])
   (.block 2 (.loop (.seq (.seq (.dreg (.quiet ⟨(some 16), (.op (.mv (.t 7))), none⟩ (.quiet ⟨(some 17), (.op (.mv (.t 1))), none⟩ (.quiet ⟨(some 18), (.op (.bin .gtr (.t 16) (.t 17))), none⟩ (.quiet ⟨(some 19), (.op (.mv (.t 18))), none⟩ (.quiet ⟨(some 20), (.op (.mv (.t 0))), (some (19, true))⟩ (.quiet ⟨(some 21), (.op (.mv (.t 7))), (some (19, true))⟩ (.quiet ⟨(some 22), (.op (.iaddrS 1 (.t 20) (.t 21))), (some (19, true))⟩ (.quiet ⟨(some 23), (.op (.load (.t 22))), (some (19, true))⟩ (.quiet ⟨(some 24), (.op (.mv (.t 0))), (some (19, true))⟩ (.quiet ⟨(some 25), (.op (.mv (.t 7))), (some (19, true))⟩ (.quiet ⟨(some 26), (.op (.bin .sub (.t 25) (.k (.int .i64 1)))), (some (19, true))⟩ (.quiet ⟨(some 27), (.op (.iaddrS 1 (.t 24) (.t 26))), (some (19, true))⟩ (.quiet ⟨(some 28), (.op (.load (.t 27))), (some (19, true))⟩ (.loud ⟨(some 29), (.call (.f 172) [(.t 23), (.t 28)]), (some (19, true))⟩ [] (.quiet ⟨(some 30), (.op (.pick (.t 19) (.t 29) (.k (.bool false)))), none⟩ .nil))))))))))))))))
    (.cond (.t 30) .skip
    (.exit 2)))
    (.seq (.block 3 (.dreg (.quiet ⟨(some 33), (.op (.mv (.t 0))), none⟩ (.quiet ⟨(some 34), (.op (.mv (.t 7))), none⟩ (.quiet ⟨(some 35), (.op (.mv (.t 0))), none⟩ (.quiet ⟨(some 36), (.op (.mv (.t 7))), none⟩ (.quiet ⟨(some 37), (.op (.bin .sub (.t 36) (.k (.int .i64 1)))), none⟩ (.quiet ⟨(some 38), (.op (.mv (.t 0))), none⟩ (.quiet ⟨(some 39), (.op (.mv (.t 7))), none⟩ (.quiet ⟨(some 40), (.op (.bin .sub (.t 39) (.k (.int .i64 1)))), none⟩ (.quiet ⟨(some 41), (.op (.iaddrS 1 (.t 38) (.t 40))), none⟩ (.quiet ⟨(some 42), (.op (.load (.t 41))), none⟩ (.quiet ⟨(some 43), (.op (.mv (.t 0))), none⟩ (.quiet ⟨(some 44), (.op (.mv (.t 7))), none⟩ (.quiet ⟨(some 45), (.op (.iaddrS 1 (.t 43) (.t 44))), none⟩ (.quiet ⟨(some 46), (.op (.load (.t 45))), none⟩ (.quiet ⟨(some 47), (.op (.iaddrS 1 (.t 33) (.t 34))), none⟩ (.loud ⟨none, (.op (.store 1 (.t 47) (.t 42))), none⟩ [] (.quiet ⟨(some 48), (.op (.iaddrS 1 (.t 35) (.t 37))), none⟩ (.loud ⟨none, (.op (.store 1 (.t 48) (.t 46))), none⟩ [] .nil))))))))))))))))))))
    (.reg [⟨(some 31), (.op (.mv (.t 7))), none⟩, ⟨(some 32), (.op (.bin .sub (.t 31) (.k (.int .i64 1)))), none⟩, ⟨(some 7), (.op (.mv (.t 32))), none⟩])))))))
   (.reg [⟨(some 13), (.op (.mv (.t 6))), none⟩, ⟨(some 14), (.op (.bin .add (.t 13) (.k (.int .i64 1)))), none⟩, ⟨(some 6), (.op (.mv (.t 14))), none⟩]))))))
def a166 : AF := ⟨49, [], .code b166, none⟩
theorem ok166 : AFOk Tryz.prog ext 166 a166 := .of Tryz.func166 (by kernel_rfl) (by kernel_rfl) (by kernel_rfl) (by kernel_rfl)
/-! 176: math/bits.Len64 -/
def b176 : AC :=
  (.seq (.reg [⟨(some 2), (.op (.mv (.k (.int .i64 0)))), none⟩])
  (.seq (.seq (.reg [⟨(some 3), (.op (.mv (.t 0))), none⟩, ⟨(some 4), (.op (.bin .geq (.t 3) (.k (.int .u64 4294967296)))), none⟩])
  (.cond (.t 4) (.seq (.reg [⟨(some 5), (.op (.mv (.t 0))), none⟩, ⟨(some 6), (.op (.bin .shr (.t 5) (.k (.int .u64 32)))), none⟩, ⟨(some 0), (.op (.mv (.t 6))), none⟩])
  (.reg [⟨(some 2), (.op (.mv (.k (.int .i64 32)))), none⟩]))
  .skip))
  (.seq (.seq (.reg [⟨(some 7), (.op (.mv (.t 0))), none⟩, ⟨(some 8), (.op (.bin .geq (.t 7) (.k (.int .u64 65536)))), none⟩])
  (.cond (.t 8) (.seq (.reg [⟨(some 9), (.op (.mv (.t 0))), none⟩, ⟨(some 10), (.op (.bin .shr (.t 9) (.k (.int .u64 16)))), none⟩, ⟨(some 0), (.op (.mv (.t 10))), none⟩])
  (.reg [⟨(some 11), (.op (.mv (.t 2))), none⟩, ⟨(some 12), (.op (.bin .add (.t 11) (.k (.int .i64 16)))), none⟩, ⟨(some 2), (.op (.mv (.t 12))), none⟩]))
  .skip))
  (.seq (.seq (.reg [⟨(some 13), (.op (.mv (.t 0))), none⟩, ⟨(some 14), (.op (.bin .geq (.t 13) (.k (.int .u64 256)))), none⟩])
  (.cond (.t 14) (.seq (.reg [⟨(some 15), (.op (.mv (.t 0))), none⟩, ⟨(some 16), (.op (.bin .shr (.t 15) (.k (.int .u64 8)))), none⟩, ⟨(some 0), (.op (.mv (.t 16))), none⟩])
  (.reg [⟨(some 17), (.op (.mv (.t 2))), none⟩, ⟨(some 18), (.op (.bin .add (.t 17) (.k (.int .i64 8)))), none⟩, ⟨(some 2), (.op (.mv (.t 18))), none⟩]))
  .skip))
  (.seq (.reg [⟨(some 19), (.op (.mv (.t 2))), none⟩, ⟨(some 20), (.op (.mv (.t 0))), none⟩, ⟨(some 21), (.op (.conv (.int .u8) (.t 20))), none⟩, ⟨(some 22), (.op (.indexS (.k (.string ⟨#[0, 1, 2, 2, 3, 3, 3, 3, 4, 4, 4, 4, 4, 4, 4, 4, 5, 5, 5, 5, 5, 5, 5, 5, 5, 5, 5, 5, 5, 5, 5, 5, 6, 6, 6, 6, 6, 6, 6, 6, 6, 6, 6, 6, 6, 6, 6, 6, 6, 6, 6, 6, 6, 6, 6, 6, 6, 6, 6, 6, 6, 6, 6, 6, 7, 7, 7, 7, 7, 7, 7, 7, 7, 7, 7, 7, 7, 7, 7, 7, 7, 7, 7, 7, 7, 7, 7, 7, 7, 7, 7, 7, 7, 7, 7, 7, 7, 7, 7, 7, 7, 7, 7, 7, 7, 7, 7, 7, 7, 7, 7, 7, 7, 7, 7, 7, 7, 7, 7, 7, 7, 7, 7, 7, 7, 7, 7, 7, 8, 8, 8, 8, 8, 8, 8, 8, 8, 8, 8, 8, 8, 8, 8, 8, 8, 8, 8, 8, 8, 8, 8, 8, 8, 8, 8, 8, 8, 8, 8, 8, 8, 8, 8, 8, 8, 8, 8, 8, 8, 8, 8, 8, 8, 8, 8, 8, 8, 8, 8, 8, 8, 8, 8, 8, 8, 8, 8, 8, 8, 8, 8, 8, 8, 8, 8, 8, 8, 8, 8, 8, 8, 8, 8, 8, 8, 8, 8, 8, 8, 8, 8, 8, 8, 8, 8, 8, 8, 8, 8, 8, 8, 8, 8, 8, 8, 8, 8, 8, 8, 8, 8, 8, 8, 8, 8, 8, 8, 8, 8, 8, 8, 8, 8, 8, 8, 8, 8, 8, 8, 8, 8, 8, 8, 8, 8, 8]⟩)) (.t 21))), none⟩, ⟨(some 23), (.op (.conv (.int .i64) (.t 22))), none⟩, ⟨(some 24), (.op (.bin .add (.t 19) (.t 23))), none⟩, ⟨(some 2), (.op (.mv (.t 24))), none⟩])
  .ret)))))
def a176 : AF := ⟨25, [(.t 2)], .code b176, none⟩
theorem ok176 : AFOk Tryz.prog ext 176 a176 := .of Tryz.func176 (by kernel_rfl) (by kernel_rfl) (by kernel_rfl) (by kernel_rfl)
/-! 177: (*rowlock/stripes.Table).held$1 -/
def b177 : AC :=
  (.seq (.seq (.reg [⟨(some 9), (.op (.load (.t 1))), none⟩, ⟨(some 10), (.op (.eq false .ptr (.t 9) (.k (.pointer none)))), none⟩])
  (.cond (.t 10) .ret
  .skip))
  (.seq (.reg [⟨(some 11), (.op (.load (.t 1))), none⟩, ⟨(some 12), (.op (.nilchk (.t 11))), none⟩, ⟨(some 13), (.op (.faddr 1 (.t 12))), none⟩, ⟨(some 14), (.op (.load (.t 13))), none⟩, ⟨(some 15), (.op (.lenS (.t 14))), none⟩, ⟨(some 16), (.op (.mv (.k (.int .i64 0)))), none⟩])
  (.block 0 (.loop (.seq (.reg [⟨(some 17), (.op (.bin .lss (.t 16) (.t 15))), none⟩])
   (.seq (.cond (.t 17) .skip
   (.exit 0))
   (.seq (.block 1 (.seq (.reg [⟨(some 18), (.op (.mv (.t 16))), none⟩, ⟨(some 19), (.op (.iaddrS 1 (.t 14) (.t 16))), none⟩, ⟨(some 20), (.op (.load (.t 19))), none⟩, ⟨(some 4), (.op (.mv (.t 18))), none⟩, ⟨(some 5), (.op (.mv (.t 20))), none⟩])
   (.seq (.reg [⟨(some 22), (.op (.mv (.t 5))), none⟩, ⟨(some 23), (.call (.f 178) [(.t 22)]), none⟩, ⟨(some 21), (.op (.mv (.t 23))), none⟩, ⟨(some 24), (.op (.extract (.t 21) 0)), none⟩, ⟨(some 25), (.op (.extract (.t 21) 1)), none⟩, ⟨(some 26), (.op (.extract (.t 21) 2)), none⟩, ⟨(some 6), (.op (.mv (.t 24))), none⟩, ⟨(some 7), (.op (.mv (.t 25))), none⟩, ⟨(some 8), (.op (.mv (.t 26))), none⟩])
   (.seq (.reg [⟨(some 27), (.op (.mv (.t 6))), none⟩, ⟨(some 28), (.op (.load (.t 2))), none⟩, ⟨(some 29), (.op (.bin .eql (.t 27) (.t 28))), none⟩, ⟨(some 30), (.op (.mv (.t 29))), none⟩, ⟨(some 31), (.op (.mv (.t 6))), (some (30, true))⟩, ⟨(some 32), (.op (.bin .geq (.t 31) (.k (.int .i64 0)))), (some (30, true))⟩, ⟨(some 33), (.op (.pick (.t 30) (.t 32) (.k (.bool false)))), none⟩, ⟨(some 34), (.op (.mv (.t 33))), none⟩, ⟨(some 35), (.op (.mv (.t 0))), (some (34, true))⟩, ⟨(some 36), (.op (.mv (.t 4))), (some (34, true))⟩, ⟨(some 37), (.call (.t 35) [(.t 36)]), (some (34, true))⟩, ⟨(some 38), (.op (.un .not (.t 37))), (some (34, true))⟩, ⟨(some 39), (.op (.pick (.t 34) (.t 38) (.k (.bool false)))), none⟩])
   (.cond (.t 39) .ret
   .skip)))))
   (.reg [⟨(some 40), (.op (.bin .add (.t 16) (.k (.int .i64 1)))), none⟩, ⟨(some 16), (.op (.mv (.t 40))), none⟩]))))))))
def a177 : AF := ⟨41, [], .code b177, none⟩
theorem ok177 : AFOk Tryz.prog ext 177 a177 := .of Tryz.func177 (by kernel_rfl) (by kernel_rfl) (by kernel_rfl) (by kernel_rfl)
/-! 178: rowlock/lockword.Read -/
def b178 : AC :=
  (.seq (.reg [⟨(some 2), (.op (.mv (.k (.int .i64 0)))), none⟩, ⟨(some 3), (.op (.mv (.k (.int .u64 0)))), none⟩, ⟨(some 4), (.op (.mv (.k (.int .i64 0)))), none⟩])
  (.seq (.reg [⟨(some 8), (.op (.mv (.t 0))), none⟩, ⟨(some 9), (.call (.f 149) [(.t 8)]), none⟩, ⟨(some 7), (.op (.mv (.t 9))), none⟩, ⟨(some 10), (.op (.extract (.t 7) 0)), none⟩, ⟨(some 11), (.op (.extract (.t 7) 1)), none⟩, ⟨(some 5), (.op (.alloc 209 [(.int .i64 0), (.int .u64 0)])), none⟩, ⟨none, (.op (.store 2 (.t 5) (.t 10))), none⟩, ⟨(some 6), (.op (.mv (.t 11))), none⟩])
  (.seq (.seq (.reg [⟨(some 12), (.op (.mv (.t 6))), none⟩, ⟨(some 13), (.op (.un .not (.t 12))), none⟩])
  (.cond (.t 13) (.seq (.reg [⟨(some 2), (.op (.mv (.k (.int .i64 0)))), none⟩, ⟨(some 3), (.op (.mv (.k (.int .u64 0)))), none⟩, ⟨(some 4), (.op (.mv (.k (.int .i64 3)))), none⟩])
  .ret)
  .skip))
  (.seq (.dreg (.quiet ⟨(some 14), (.op (.faddr 0 (.t 5))), none⟩ (.quiet ⟨(some 15), (.op (.load (.t 14))), none⟩ (.quiet ⟨(some 16), (.op (.faddr 1 (.t 5))), none⟩ (.quiet ⟨(some 17), (.op (.load (.t 16))), none⟩ (.loud ⟨(some 2), (.op (.mv (.t 15))), none⟩ [⟨(some 17), (.op (.load (.t 16))), none⟩] (.loud ⟨(some 3), (.op (.mv (.t 17))), none⟩ [] (.loud ⟨(some 4), (.op (.mv (.k (.int .i64 0)))), none⟩ [] .nil))))))))
  .ret))))
def a178 : AF := ⟨18, [(.t 2), (.t 3), (.t 4)], .code b178, none⟩
theorem ok178 : AFOk Tryz.prog ext 178 a178 := .of Tryz.func178 (by kernel_rfl) (by kernel_rfl) (by kernel_rfl) (by kernel_rfl)
/-! 201: (*rowlock/rowlockref04.Table).may -/
def b201 : AC :=
  (.seq (.reg [⟨(some 4), (.op (.mv (.k (.int .i64 0)))), none⟩])
  (.seq (.block 0 (.seq (.reg [⟨(some 6), (.op (.mv (.t 0))), none⟩, ⟨(some 7), (.op (.eq false .ptr (.t 6) (.k (.pointer none)))), none⟩, ⟨(some 5), (.op (.mv (.t 7))), none⟩])
  (.cond (.t 5) (.seq (.reg [⟨(some 4), (.op (.mv (.k (.int .i64 1)))), none⟩])
  .ret)
  (.seq (.reg [⟨(some 9), (.op (.mv (.t 1))), none⟩, ⟨(some 10), (.op (.bin .lss (.t 9) (.k (.int .i64 0)))), none⟩, ⟨(some 11), (.op (.mv (.t 10))), none⟩, ⟨(some 12), (.op (.mv (.t 1))), (some (11, false))⟩, ⟨(some 13), (.op (.mv (.t 0))), (some (11, false))⟩, ⟨(some 14), (.op (.nilchk (.t 13))), (some (11, false))⟩, ⟨(some 15), (.op (.faddr 0 (.t 14))), (some (11, false))⟩, ⟨(some 16), (.op (.load (.t 15))), (some (11, false))⟩, ⟨(some 17), (.op (.lenS (.t 16))), (some (11, false))⟩, ⟨(some 18), (.op (.bin .geq (.t 12) (.t 17))), (some (11, false))⟩, ⟨(some 19), (.op (.pick (.t 11) (.k (.bool true)) (.t 18))), none⟩, ⟨(some 8), (.op (.mv (.t 19))), none⟩])
  (.cond (.t 8) (.seq (.reg [⟨(some 4), (.op (.mv (.k (.int .i64 2)))), none⟩])
  .ret)
  .skip)))))
  (.seq (.reg [⟨(some 4), (.op (.mv (.k (.int .i64 0)))), none⟩])
  .ret)))
def a201 : AF := ⟨20, [(.t 4)], .code b201, none⟩
theorem ok201 : AFOk Tryz.prog ext 201 a201 := .of Tryz.func201 (by kernel_rfl) (by kernel_rfl) (by kernel_rfl) (by kernel_rfl)
/-! 202: (*rowlock/rowlockref04.Table).Owner -/
def b202 : AC :=
  (.seq (.reg [⟨(some 4), (.op (.mv (.k (.int .i64 0)))), none⟩, ⟨(some 5), (.op (.mv (.k (.bool false)))), none⟩])
  (.seq (.seq (.reg [⟨(some 9), (.op (.mv (.t 0))), none⟩, ⟨(some 10), (.op (.mv (.t 1))), none⟩, ⟨(some 11), (.call (.f 201) [(.t 9), (.t 10)]), none⟩, ⟨(some 12), (.op (.bin .neq (.t 11) (.k (.int .i64 0)))), none⟩])
  (.cond (.t 12) (.seq (.reg [⟨(some 4), (.op (.mv (.k (.int .i64 0)))), none⟩, ⟨(some 5), (.op (.mv (.k (.bool false)))), none⟩])
  .ret)
  .skip))
  (.seq (.reg [⟨(some 14), (.op (.mv (.t 0))), none⟩, ⟨(some 15), (.op (.nilchk (.t 14))), none⟩, ⟨(some 16), (.op (.faddr 0 (.t 15))), none⟩, ⟨(some 17), (.op (.load (.t 16))), none⟩, ⟨(some 18), (.op (.mv (.t 1))), none⟩, ⟨(some 19), (.op (.iaddrS 1 (.t 17) (.t 18))), none⟩, ⟨(some 20), (.op (.load (.t 19))), none⟩, ⟨(some 21), (.call (.f 203) [(.t 20)]), none⟩, ⟨(some 13), (.op (.mv (.t 21))), none⟩, ⟨(some 22), (.op (.extract (.t 13) 0)), none⟩, ⟨(some 23), (.op (.extract (.t 13) 1)), none⟩, ⟨(some 24), (.op (.extract (.t 13) 2)), none⟩, ⟨(some 6), (.op (.mv (.t 22))), none⟩, ⟨(some 7), (.op (.mv (.t 23))), none⟩, ⟨(some 8), (.op (.mv (.t 24))), none⟩])
  (.seq (.seq (.reg [⟨(some 25), (.op (.mv (.t 6))), none⟩, ⟨(some 26), (.op (.bin .lss (.t 25) (.k (.int .i64 0)))), none⟩])
  (.cond (.t 26) (.seq (.reg [⟨(some 4), (.op (.mv (.k (.int .i64 0)))), none⟩, ⟨(some 5), (.op (.mv (.k (.bool false)))), none⟩])
  .ret)
  .skip))
  (.seq (.reg [⟨(some 27), (.op (.mv (.t 6))), none⟩, ⟨(some 4), (.op (.mv (.t 27))), none⟩, ⟨(some 5), (.op (.mv (.k (.bool true)))), none⟩])
  .ret)))))
def a202 : AF := ⟨28, [(.t 4), (.t 5)], .code b202, none⟩
theorem ok202 : AFOk Tryz.prog ext 202 a202 := .of Tryz.func202 (by kernel_rfl) (by kernel_rfl) (by kernel_rfl) (by kernel_rfl)
/-! 203: rowlock/rowlockref03.Read -/
def b203 : AC :=
  (.seq (.reg [⟨(some 2), (.op (.mv (.k (.int .i64 0)))), none⟩, ⟨(some 3), (.op (.mv (.k (.int .u64 0)))), none⟩, ⟨(some 4), (.op (.mv (.k (.int .i64 0)))), none⟩])
  (.seq (.reg [⟨(some 9), (.op (.mv (.t 0))), none⟩, ⟨(some 10), (.op (.bin .quo (.t 9) (.k (.int .u64 32)))), none⟩, ⟨(some 5), (.op (.mv (.t 10))), none⟩])
  (.seq (.seq (.reg [⟨(some 11), (.op (.mv (.t 5))), none⟩, ⟨(some 12), (.op (.bin .gtr (.t 11) (.k (.int .u64 1099511627776)))), none⟩])
  (.cond (.t 12) (.seq (.reg [⟨(some 2), (.op (.mv (.k (.int .i64 0)))), none⟩, ⟨(some 3), (.op (.mv (.k (.int .u64 0)))), none⟩, ⟨(some 4), (.op (.mv (.k (.int .i64 3)))), none⟩])
  .ret)
  .skip))
  (.seq (.seq (.reg [⟨(some 13), (.op (.mv (.t 0))), none⟩, ⟨(some 14), (.op (.bin .rem (.t 13) (.k (.int .u64 32)))), none⟩, ⟨(some 15), (.op (.bin .eql (.t 14) (.k (.int .u64 0)))), none⟩])
  (.cond (.t 15) (.seq (.reg [⟨(some 16), (.op (.mv (.t 5))), none⟩, ⟨(some 2), (.op (.mv (.k (.int .i64 (-1))))), none⟩, ⟨(some 3), (.op (.mv (.t 16))), none⟩, ⟨(some 4), (.op (.mv (.k (.int .i64 0)))), none⟩])
  .ret)
  .skip))
  (.seq (.seq (.reg [⟨(some 6), (.op (.mv (.k (.int .i64 0)))), none⟩])
  (.block 0 (.loop (.seq (.seq (.reg [⟨(some 17), (.op (.mv (.t 6))), none⟩, ⟨(some 18), (.op (.bin .lss (.t 17) (.k (.int .i64 4)))), none⟩])
   (.cond (.t 18) .skip
   (.exit 0)))
   (.seq (.block 1 (.seq (.reg [⟨(some 22), (.op (.mv (.t 6))), none⟩, ⟨(some 23), (.op (.mv (.t 5))), none⟩, ⟨(some 24), (.call (.f 237) [(.t 22), (.t 23)]), none⟩, ⟨(some 21), (.op (.mv (.t 24))), none⟩, ⟨(some 25), (.op (.extract (.t 21) 0)), none⟩, ⟨(some 26), (.op (.extract (.t 21) 1)), none⟩, ⟨(some 7), (.op (.mv (.t 25))), none⟩, ⟨(some 8), (.op (.mv (.t 26))), none⟩])
   (.seq (.reg [⟨(some 27), (.op (.mv (.t 7))), none⟩, ⟨(some 28), (.op (.mv (.t 0))), none⟩, ⟨(some 29), (.op (.bin .eql (.t 27) (.t 28))), none⟩])
   (.cond (.t 29) (.seq (.reg [⟨(some 30), (.op (.mv (.t 6))), none⟩, ⟨(some 31), (.op (.mv (.t 5))), none⟩, ⟨(some 2), (.op (.mv (.t 30))), none⟩, ⟨(some 3), (.op (.mv (.t 31))), none⟩, ⟨(some 4), (.op (.mv (.k (.int .i64 0)))), none⟩])
   .ret)
   .skip))))
   (.reg [⟨(some 19), (.op (.mv (.t 6))), none⟩, ⟨(some 20), (.op (.bin .add (.t 19) (.k (.int .i64 1)))), none⟩, ⟨(some 6), (.op (.mv (.t 20))), none⟩]))))))
  (.seq (.reg [⟨(some 2), (.op (.mv (.k (.int .i64 0)))), none⟩, ⟨(some 3), (.op (.mv (.k (.int .u64 0)))), none⟩, ⟨(some 4), (.op (.mv (.k (.int .i64 3)))), none⟩])
  .ret))))))
def a203 : AF := ⟨32, [(.t 2), (.t 3), (.t 4)], .code b203, none⟩
theorem ok203 : AFOk Tryz.prog ext 203 a203 := .of Tryz.func203 (by kernel_rfl) (by kernel_rfl) (by kernel_rfl) (by kernel_rfl)
/-! 204: rowlock/lockword.flags -/
def b204 : AC :=
  (.seq (.reg [⟨(some 2), (.op (.alloc 250 [(.bool false), (.bool false), (.bool false), (.bool false), (.bool false)])), none⟩])
  (.seq (.reg [⟨(some 3), (.op (.alloc 250 [(.bool false), (.bool false), (.bool false), (.bool false), (.bool false)])), none⟩])
  (.seq (.seq (.reg [⟨(some 5), (.op (.mv (.k (.int .i64 0)))), none⟩])
  (.block 0 (.loop (.seq (.reg [⟨(some 6), (.op (.bin .lss (.t 5) (.k (.int .i64 5)))), none⟩])
   (.seq (.cond (.t 6) .skip
   (.exit 0))
   (.seq (.block 1 (.seq (.reg [⟨(some 7), (.op (.mv (.t 5))), none⟩, ⟨(some 4), (.op (.mv (.t 7))), none⟩])
   (.reg [⟨(some 8), (.op (.mv (.t 4))), none⟩, ⟨(some 9), (.op (.mv (.t 0))), none⟩, ⟨(some 10), (.op (.mv (.t 4))), none⟩, ⟨(some 11), (.op (.bin .shr (.t 9) (.t 10))), none⟩, ⟨(some 12), (.op (.bin .and (.t 11) (.k (.int .u64 1)))), none⟩, ⟨(some 13), (.op (.bin .eql (.t 12) (.k (.int .u64 1)))), none⟩, ⟨(some 14), (.op (.iaddrA 5 1 (.t 3) (.t 8))), none⟩, ⟨none, (.op (.store 1 (.t 14) (.t 13))), none⟩])))
   (.reg [⟨(some 15), (.op (.bin .add (.t 5) (.k (.int .i64 1)))), none⟩, ⟨(some 5), (.op (.mv (.t 15))), none⟩])))))))
  (.seq (.reg [⟨(some 16), (.op (.loadN 5 (.t 3))), none⟩, ⟨none, (.op (.store 5 (.t 2) (.t 16))), none⟩])
  .ret))))
def a204 : AF := ⟨17, [(.c 2 true 5)], .code b204, none⟩
theorem ok204 : AFOk Tryz.prog ext 204 a204 := .of Tryz.func204 (by kernel_rfl) (by kernel_rfl) (by kernel_rfl) (by kernel_rfl)
/-! 205: (rowlock/lockword.parts).right -/
def b205 : AC :=
  (.seq (.reg [⟨(some 1), (.op (.box 209 (.t 0))), none⟩, ⟨(some 2), (.op (.mv (.k (.bool false)))), none⟩])
  (.seq (.reg [⟨(some 3), (.op (.faddr 1 (.t 1))), none⟩, ⟨(some 4), (.op (.load (.t 3))), none⟩, ⟨(some 5), (.op (.bin .leq (.t 4) (.k (.int .u64 1099511627776)))), none⟩, ⟨(some 6), (.op (.mv (.t 5))), none⟩, ⟨(some 7), (.op (.faddr 0 (.t 1))), (some (6, true))⟩, ⟨(some 8), (.op (.load (.t 7))), (some (6, true))⟩, ⟨(some 9), (.op (.bin .eql (.t 8) (.k (.int .i64 (-1))))), (some (6, true))⟩, ⟨(some 10), (.op (.mv (.t 9))), (some (6, true))⟩, ⟨(some 11), (.op (.faddr 0 (.t 1))), (some (10, false))⟩, ⟨(some 12), (.op (.load (.t 11))), (some (10, false))⟩, ⟨(some 13), (.call (.f 238) [(.t 12)]), (some (10, false))⟩, ⟨(some 14), (.op (.pick (.t 10) (.k (.bool true)) (.t 13))), (some (6, true))⟩, ⟨(some 15), (.op (.pick (.t 6) (.t 14) (.k (.bool false)))), none⟩, ⟨(some 2), (.op (.mv (.t 15))), none⟩])
  .ret))
def a205 : AF := ⟨16, [(.t 2)], .code b205, none⟩
theorem ok205 : AFOk Tryz.prog ext 205 a205 := .of Tryz.func205 (by kernel_rfl) (by kernel_rfl) (by kernel_rfl) (by kernel_rfl)
/-! 206: (*rowlock/stripes.Table).Owner -/
def b206 : AC :=
  (.seq (.reg [⟨(some 4), (.op (.mv (.k (.int .i64 0)))), none⟩, ⟨(some 5), (.op (.mv (.k (.bool false)))), none⟩])
  (.seq (.seq (.reg [⟨(some 9), (.op (.mv (.t 0))), none⟩, ⟨(some 10), (.op (.mv (.t 1))), none⟩, ⟨(some 11), (.call (.f 148) [(.t 9), (.t 10)]), none⟩, ⟨(some 12), (.op (.bin .neq (.t 11) (.k (.int .i64 0)))), none⟩])
  (.cond (.t 12) (.seq (.reg [⟨(some 4), (.op (.mv (.k (.int .i64 0)))), none⟩, ⟨(some 5), (.op (.mv (.k (.bool false)))), none⟩])
  .ret)
  .skip))
  (.seq (.reg [⟨(some 14), (.op (.mv (.t 0))), none⟩, ⟨(some 15), (.op (.nilchk (.t 14))), none⟩, ⟨(some 16), (.op (.faddr 1 (.t 15))), none⟩, ⟨(some 17), (.op (.load (.t 16))), none⟩, ⟨(some 18), (.op (.mv (.t 1))), none⟩, ⟨(some 19), (.op (.iaddrS 1 (.t 17) (.t 18))), none⟩, ⟨(some 20), (.op (.load (.t 19))), none⟩, ⟨(some 21), (.call (.f 178) [(.t 20)]), none⟩, ⟨(some 13), (.op (.mv (.t 21))), none⟩, ⟨(some 22), (.op (.extract (.t 13) 0)), none⟩, ⟨(some 23), (.op (.extract (.t 13) 1)), none⟩, ⟨(some 24), (.op (.extract (.t 13) 2)), none⟩, ⟨(some 6), (.op (.mv (.t 22))), none⟩, ⟨(some 7), (.op (.mv (.t 23))), none⟩, ⟨(some 8), (.op (.mv (.t 24))), none⟩])
  (.seq (.reg [⟨(some 25), (.op (.mv (.t 6))), none⟩, ⟨(some 26), (.op (.max (.t 25) (.k (.int .i64 0)))), none⟩, ⟨(some 27), (.op (.mv (.t 6))), none⟩, ⟨(some 28), (.op (.bin .geq (.t 27) (.k (.int .i64 0)))), none⟩, ⟨(some 4), (.op (.mv (.t 26))), none⟩, ⟨(some 5), (.op (.mv (.t 28))), none⟩])
  .ret))))
def a206 : AF := ⟨29, [(.t 4), (.t 5)], .code b206, none⟩
theorem ok206 : AFOk Tryz.prog ext 206 a206 := .of Tryz.func206 (by kernel_rfl) (by kernel_rfl) (by kernel_rfl) (by kernel_rfl)
/-! 207: (*rowlock/tl2.Engine).needs -/
def b207 : AC :=
  (.seq (.reg [⟨(some 4), (.op (.mv (.k (.slice none 0 0)))), none⟩])
  (.seq (.reg [⟨(some 5), (.op (.mv (.k (.slice none 0 0)))), none⟩])
  (.seq (.seq (.reg [⟨(some 8), (.op (.mv (.t 1))), none⟩, ⟨(some 9), (.op (.nilchk (.t 8))), none⟩, ⟨(some 10), (.op (.faddr 1 (.t 9))), none⟩, ⟨(some 11), (.op (.load (.t 10))), none⟩, ⟨(some 12), (.call (.f 55) [(.t 11)]), none⟩, ⟨(some 13), (.op (.lenS (.t 12))), none⟩, ⟨(some 14), (.op (.mv (.k (.int .i64 0)))), none⟩])
  (.block 0 (.loop (.seq (.reg [⟨(some 15), (.op (.bin .lss (.t 14) (.t 13))), none⟩])
   (.seq (.cond (.t 15) .skip
   (.exit 0))
   (.seq (.block 1 (.seq (.reg [⟨(some 16), (.op (.iaddrS 2 (.t 12) (.t 14))), none⟩, ⟨(some 17), (.op (.loadN 2 (.t 16))), none⟩, ⟨(some 7), (.op (.alloc 104 [(.int .i64 0), (.int .u64 0)])), none⟩, ⟨none, (.op (.store 2 (.t 7) (.t 17))), none⟩])
   (.reg [⟨(some 18), (.op (.mv (.t 5))), none⟩, ⟨(some 19), (.op (.faddr 0 (.t 7))), none⟩, ⟨(some 20), (.op (.load (.t 19))), none⟩, ⟨(some 21), (.op (.bslice 3 [(.int .i64 0)] 1 [(0, 1, (.t 20))])), none⟩, ⟨(some 22), (.op (.append 3 1 8 (.t 18) (.t 21))), none⟩, ⟨(some 5), (.op (.mv (.t 22))), none⟩])))
   (.reg [⟨(some 23), (.op (.bin .add (.t 14) (.k (.int .i64 1)))), none⟩, ⟨(some 14), (.op (.mv (.t 23))), none⟩])))))))
  (.seq (.reg [⟨(some 24), (.op (.mv (.t 0))), none⟩, ⟨(some 25), (.op (.nilchk (.t 24))), none⟩, ⟨(some 26), (.op (.faddr 0 (.t 25))), none⟩, ⟨(some 27), (.op (.load (.t 26))), none⟩, ⟨(some 28), (.op (.mv (.t 5))), none⟩, ⟨(some 29), (.call (.f 239) [(.t 27), (.t 28)]), none⟩, ⟨(some 4), (.op (.mv (.t 29))), none⟩])
  .ret))))
def a207 : AF := ⟨30, [(.t 4)], .code b207, none⟩
theorem ok207 : AFOk Tryz.prog ext 207 a207 := .of Tryz.func207 (by kernel_rfl) (by kernel_rfl) (by kernel_rfl) (by kernel_rfl)
/-! 208: slices.Contains[[]int,int] -/
def b208 : AC :=
  (.seq (.reg [⟨(some 4), (.op (.mv (.k (.bool false)))), none⟩])
  (.seq (.reg [⟨(some 5), (.op (.mv (.t 0))), none⟩, ⟨(some 6), (.op (.mv (.t 1))), none⟩, ⟨(some 7), (.call (.f 240) [(.t 5), (.t 6)]), none⟩, ⟨(some 8), (.op (.bin .geq (.t 7) (.k (.int .i64 0)))), none⟩, ⟨(some 4), (.op (.mv (.t 8))), none⟩])
  .ret))
def a208 : AF := ⟨9, [(.t 4)], .code b208, none⟩
theorem ok208 : AFOk Tryz.prog ext 208 a208 := .of Tryz.func208 (by kernel_rfl) (by kernel_rfl) (by kernel_rfl) (by kernel_rfl)
/-! 209: (*rowlock/stripes.Table).Lock -/
def b209 : AC :=
  (.seq (.reg [⟨(some 4), (.op (.box 3 (.t 1))), none⟩, ⟨(some 6), (.op (.mv (.k (.int .i64 0)))), none⟩])
  (.seq (.reg [⟨(some 7), (.op (.mv (.t 0))), none⟩, ⟨(some 8), (.op (.mv (.t 2))), none⟩, ⟨(some 9), (.op (.mkfunc 241 [] [(.t 4)])), none⟩, ⟨(some 10), (.call (.f 211) [(.t 7), (.t 8), (.t 9)]), none⟩, ⟨(some 6), (.op (.mv (.t 10))), none⟩])
  .ret))
def a209 : AF := ⟨11, [(.t 6)], .code b209, none⟩
theorem ok209 : AFOk Tryz.prog ext 209 a209 := .of Tryz.func209 (by kernel_rfl) (by kernel_rfl) (by kernel_rfl) (by kernel_rfl)
/-! 210: (*rowlock/stripes.Table).Tick -/
def b210 : AC :=
  (.seq (.reg [⟨(some 2), (.op (.mv (.k (.int .u64 0)))), none⟩, ⟨(some 3), (.op (.mv (.k (.int .i64 0)))), none⟩])
  (.seq (.seq (.reg [⟨(some 4), (.op (.mv (.t 0))), none⟩, ⟨(some 5), (.op (.eq false .ptr (.t 4) (.k (.pointer none)))), none⟩])
  (.cond (.t 5) (.seq (.reg [⟨(some 2), (.op (.mv (.k (.int .u64 0)))), none⟩, ⟨(some 3), (.op (.mv (.k (.int .i64 1)))), none⟩])
  .ret)
  .skip))
  (.seq (.reg [⟨(some 6), (.op (.mv (.t 0))), none⟩, ⟨(some 7), (.op (.nilchk (.t 6))), none⟩, ⟨(some 8), (.op (.faddr 0 (.t 7))), none⟩, ⟨(some 9), (.call (.f 243) [(.t 8)]), none⟩, ⟨(some 10), (.op (.extract (.t 9) 0)), none⟩, ⟨(some 11), (.op (.extract (.t 9) 1)), none⟩, ⟨(some 2), (.op (.mv (.t 10))), none⟩, ⟨(some 3), (.op (.mv (.t 11))), none⟩])
  .ret)))
def a210 : AF := ⟨12, [(.t 2), (.t 3)], .code b210, none⟩
theorem ok210 : AFOk Tryz.prog ext 210 a210 := .of Tryz.func210 (by kernel_rfl) (by kernel_rfl) (by kernel_rfl) (by kernel_rfl)
/-! 211: (*rowlock/stripes.Table).turn -/
def b211 : AC :=
  (.seq (.reg [⟨(some 6), (.op (.mv (.k (.int .i64 0)))), none⟩])
  (.seq (.seq (.reg [⟨(some 10), (.op (.mv (.t 0))), none⟩, ⟨(some 11), (.op (.mv (.t 1))), none⟩, ⟨(some 12), (.call (.f 148) [(.t 10), (.t 11)]), none⟩, ⟨(some 7), (.op (.mv (.t 12))), none⟩])
  (.seq (.reg [⟨(some 13), (.op (.mv (.t 7))), none⟩, ⟨(some 14), (.op (.bin .neq (.t 13) (.k (.int .i64 0)))), none⟩])
  (.cond (.t 14) (.seq (.reg [⟨(some 15), (.op (.mv (.t 7))), none⟩, ⟨(some 6), (.op (.mv (.t 15))), none⟩])
  .ret)
  .skip)))
  (.seq (.reg [⟨(some 17), (.op (.mv (.t 2))), none⟩, ⟨(some 18), (.op (.mv (.t 0))), none⟩, ⟨(some 19), (.op (.nilchk (.t 18))), none⟩, ⟨(some 20), (.op (.faddr 1 (.t 19))), none⟩, ⟨(some 21), (.op (.load (.t 20))), none⟩, ⟨(some 22), (.op (.mv (.t 1))), none⟩, ⟨(some 23), (.op (.iaddrS 1 (.t 21) (.t 22))), none⟩, ⟨(some 24), (.op (.load (.t 23))), none⟩, ⟨(some 25), (.call (.t 17) [(.t 24)]), none⟩, ⟨(some 16), (.op (.mv (.t 25))), none⟩, ⟨(some 26), (.op (.extract (.t 16) 0)), none⟩, ⟨(some 27), (.op (.extract (.t 16) 1)), none⟩, ⟨(some 8), (.op (.mv (.t 26))), none⟩, ⟨(some 9), (.op (.mv (.t 27))), none⟩])
  (.seq (.seq (.reg [⟨(some 28), (.op (.mv (.t 9))), none⟩, ⟨(some 29), (.op (.bin .eql (.t 28) (.k (.int .i64 0)))), none⟩])
  (.cond (.t 29) (.reg [⟨(some 30), (.op (.mv (.t 0))), none⟩, ⟨(some 31), (.op (.nilchk (.t 30))), none⟩, ⟨(some 32), (.op (.faddr 1 (.t 31))), none⟩, ⟨(some 33), (.op (.load (.t 32))), none⟩, ⟨(some 34), (.op (.mv (.t 1))), none⟩, ⟨(some 35), (.op (.mv (.t 8))), none⟩, ⟨(some 36), (.op (.iaddrS 1 (.t 33) (.t 34))), none⟩, ⟨none, (.op (.store 1 (.t 36) (.t 35))), none⟩])
  .skip))
  (.seq (.reg [⟨(some 37), (.op (.mv (.t 9))), none⟩, ⟨(some 6), (.op (.mv (.t 37))), none⟩])
  .ret)))))
def a211 : AF := ⟨38, [(.t 6)], .code b211, none⟩
theorem ok211 : AFOk Tryz.prog ext 211 a211 := .of Tryz.func211 (by kernel_rfl) (by kernel_rfl) (by kernel_rfl) (by kernel_rfl)
/-! 212: (*rowlock/stripes.Table).Unlock$1 -/
def b212 : AC :=
  (.seq (.reg [⟨(some 5), (.op (.mv (.k (.int .u64 0)))), none⟩, ⟨(some 6), (.op (.mv (.k (.int .i64 0)))), none⟩])
  (.seq (.seq (.dreg (.quiet ⟨(some 7), (.op (.load (.t 1))), none⟩ (.quiet ⟨(some 8), (.op (.load (.t 2))), none⟩ (.quiet ⟨(some 9), (.op (.nilchk (.t 8))), none⟩ (.quiet ⟨(some 10), (.op (.faddr 0 (.t 9))), none⟩ (.quiet ⟨(some 11), (.op (.faddr 0 (.t 10))), none⟩ (.quiet ⟨(some 12), (.op (.load (.t 11))), none⟩ (.quiet ⟨(some 13), (.op (.bin .gtr (.t 7) (.t 12))), none⟩ .nil))))))))
  (.cond (.t 13) (.seq (.reg [⟨(some 5), (.op (.mv (.k (.int .u64 0)))), none⟩, ⟨(some 6), (.op (.mv (.k (.int .i64 2)))), none⟩])
  .ret)
  .skip))
  (.seq (.reg [⟨(some 14), (.op (.mv (.t 0))), none⟩, ⟨(some 15), (.op (.load (.t 3))), none⟩, ⟨(some 16), (.op (.load (.t 1))), none⟩, ⟨(some 17), (.call (.f 213) [(.t 14), (.t 15), (.t 16)]), none⟩, ⟨(some 18), (.op (.extract (.t 17) 0)), none⟩, ⟨(some 19), (.op (.extract (.t 17) 1)), none⟩, ⟨(some 5), (.op (.mv (.t 18))), none⟩, ⟨(some 6), (.op (.mv (.t 19))), none⟩])
  .ret)))
def a212 : AF := ⟨20, [(.t 5), (.t 6)], .code b212, none⟩
theorem ok212 : AFOk Tryz.prog ext 212 a212 := .of Tryz.func212 (by kernel_rfl) (by kernel_rfl) (by kernel_rfl) (by kernel_rfl)
/-! 213: rowlock/lockword.Unlock -/
def b213 : AC :=
  (.seq (.reg [⟨(some 6), (.op (.mv (.k (.int .u64 0)))), none⟩, ⟨(some 7), (.op (.mv (.k (.int .i64 0)))), none⟩])
  (.seq (.reg [⟨(some 11), (.op (.mv (.t 0))), none⟩, ⟨(some 12), (.op (.mv (.t 1))), none⟩, ⟨(some 13), (.call (.f 244) [(.t 11), (.t 12)]), none⟩, ⟨(some 10), (.op (.mv (.t 13))), none⟩, ⟨(some 14), (.op (.extract (.t 10) 0)), none⟩, ⟨(some 15), (.op (.extract (.t 10) 1)), none⟩, ⟨(some 8), (.op (.alloc 209 [(.int .i64 0), (.int .u64 0)])), none⟩, ⟨none, (.op (.store 2 (.t 8) (.t 14))), none⟩, ⟨(some 9), (.op (.mv (.t 15))), none⟩])
  (.seq (.block 0 (.seq (.reg [⟨(some 17), (.op (.mv (.t 9))), none⟩, ⟨(some 18), (.op (.bin .neq (.t 17) (.k (.int .i64 0)))), none⟩, ⟨(some 16), (.op (.mv (.t 18))), none⟩])
  (.cond (.t 16) (.seq (.reg [⟨(some 19), (.op (.mv (.t 9))), none⟩, ⟨(some 6), (.op (.mv (.k (.int .u64 0)))), none⟩, ⟨(some 7), (.op (.mv (.t 19))), none⟩])
  .ret)
  (.seq (.reg [⟨(some 21), (.op (.mv (.t 2))), none⟩, ⟨(some 22), (.op (.bin .gtr (.t 21) (.k (.int .u64 1099511627776)))), none⟩, ⟨(some 20), (.op (.mv (.t 22))), none⟩])
  (.cond (.t 20) (.seq (.reg [⟨(some 6), (.op (.mv (.k (.int .u64 0)))), none⟩, ⟨(some 7), (.op (.mv (.k (.int .i64 2)))), none⟩])
  .ret)
  (.seq (.reg [⟨(some 24), (.op (.faddr 0 (.t 8))), none⟩, ⟨(some 25), (.op (.load (.t 24))), none⟩, ⟨(some 26), (.op (.mv (.t 1))), none⟩, ⟨(some 27), (.op (.bin .neq (.t 25) (.t 26))), none⟩, ⟨(some 28), (.op (.mv (.t 27))), none⟩, ⟨(some 29), (.op (.mv (.t 2))), (some (28, false))⟩, ⟨(some 30), (.op (.faddr 1 (.t 8))), (some (28, false))⟩, ⟨(some 31), (.op (.load (.t 30))), (some (28, false))⟩, ⟨(some 32), (.op (.bin .lss (.t 29) (.t 31))), (some (28, false))⟩, ⟨(some 33), (.op (.pick (.t 28) (.k (.bool true)) (.t 32))), none⟩, ⟨(some 23), (.op (.mv (.t 33))), none⟩])
  (.cond (.t 23) (.seq (.reg [⟨(some 6), (.op (.mv (.k (.int .u64 0)))), none⟩, ⟨(some 7), (.op (.mv (.k (.int .i64 8)))), none⟩])
  .ret)
  .skip)))))))
  (.seq (.reg [⟨(some 34), (.op (.mv (.t 2))), none⟩, ⟨(some 35), (.call (.f 245) [(.t 34)]), none⟩, ⟨(some 36), (.op (.extract (.t 35) 0)), none⟩, ⟨(some 37), (.op (.extract (.t 35) 1)), none⟩, ⟨(some 6), (.op (.mv (.t 36))), none⟩, ⟨(some 7), (.op (.mv (.t 37))), none⟩])
  .ret))))
def a213 : AF := ⟨38, [(.t 6), (.t 7)], .code b213, none⟩
theorem ok213 : AFOk Tryz.prog ext 213 a213 := .of Tryz.func213 (by kernel_rfl) (by kernel_rfl) (by kernel_rfl) (by kernel_rfl)
/-! 214: (*rowlock/writes.Log).pop -/
def b214 : AC :=
  (.seq (.reg [⟨(some 2), (.op (.mv (.k (.slice none 0 0)))), none⟩, ⟨(some 3), (.op (.mv (.k (.int .i64 0)))), none⟩])
  (.seq (.block 0 (.seq (.reg [⟨(some 6), (.op (.mv (.t 0))), none⟩, ⟨(some 7), (.op (.eq false .ptr (.t 6) (.k (.pointer none)))), none⟩, ⟨(some 5), (.op (.mv (.t 7))), none⟩])
  (.cond (.t 5) (.seq (.reg [⟨(some 2), (.op (.mv (.k (.slice none 0 0)))), none⟩, ⟨(some 3), (.op (.mv (.k (.int .i64 1)))), none⟩])
  .ret)
  (.seq (.reg [⟨(some 9), (.op (.mv (.t 0))), none⟩, ⟨(some 10), (.op (.nilchk (.t 9))), none⟩, ⟨(some 11), (.op (.faddr 1 (.t 10))), none⟩, ⟨(some 12), (.op (.load (.t 11))), none⟩, ⟨(some 13), (.op (.bin .eql (.t 12) (.k (.int .i64 0)))), none⟩, ⟨(some 8), (.op (.mv (.t 13))), none⟩])
  (.cond (.t 8) (.seq (.reg [⟨(some 2), (.op (.mv (.k (.slice none 0 0)))), none⟩, ⟨(some 3), (.op (.mv (.k (.int .i64 8)))), none⟩])
  .ret)
  .skip)))))
  (.seq (.reg [⟨(some 14), (.op (.mv (.t 0))), none⟩, ⟨(some 15), (.op (.nilchk (.t 14))), none⟩, ⟨(some 16), (.op (.faddr 0 (.t 15))), none⟩, ⟨(some 17), (.op (.load (.t 16))), none⟩, ⟨(some 18), (.op (.nilchk (.t 17))), none⟩, ⟨(some 19), (.op (.faddr 0 (.t 18))), none⟩, ⟨(some 20), (.op (.load (.t 19))), none⟩, ⟨(some 4), (.op (.mv (.t 20))), none⟩])
  (.seq (.reg [⟨(some 21), (.op (.mv (.t 0))), none⟩, ⟨(some 22), (.op (.mv (.t 0))), none⟩, ⟨(some 23), (.op (.nilchk (.t 22))), none⟩, ⟨(some 24), (.op (.faddr 0 (.t 23))), none⟩, ⟨(some 25), (.op (.load (.t 24))), none⟩, ⟨(some 26), (.op (.nilchk (.t 25))), none⟩, ⟨(some 27), (.op (.faddr 1 (.t 26))), none⟩, ⟨(some 28), (.op (.load (.t 27))), none⟩, ⟨(some 29), (.op (.nilchk (.t 21))), none⟩, ⟨(some 30), (.op (.faddr 0 (.t 29))), none⟩, ⟨none, (.op (.store 1 (.t 30) (.t 28))), none⟩])
  (.seq (.reg [⟨(some 31), (.op (.mv (.t 0))), none⟩, ⟨(some 32), (.op (.nilchk (.t 31))), none⟩, ⟨(some 33), (.op (.faddr 1 (.t 32))), none⟩, ⟨(some 34), (.op (.load (.t 33))), none⟩, ⟨(some 35), (.op (.bin .sub (.t 34) (.k (.int .i64 1)))), none⟩, ⟨(some 36), (.op (.nilchk (.t 31))), none⟩, ⟨(some 37), (.op (.faddr 1 (.t 36))), none⟩, ⟨none, (.op (.store 1 (.t 37) (.t 35))), none⟩])
  (.seq (.reg [⟨(some 38), (.op (.mv (.t 4))), none⟩, ⟨(some 2), (.op (.mv (.t 38))), none⟩, ⟨(some 3), (.op (.mv (.k (.int .i64 0)))), none⟩])
  .ret))))))
def a214 : AF := ⟨39, [(.t 2), (.t 3)], .code b214, none⟩
theorem ok214 : AFOk Tryz.prog ext 214 a214 := .of Tryz.func214 (by kernel_rfl) (by kernel_rfl) (by kernel_rfl) (by kernel_rfl)
/-! 215: (rowlock/writes.frame).put -/
def b215 : AC :=
  (.seq (.reg [⟨(some 3), (.op (.box 104 (.t 1))), none⟩, ⟨(some 4), (.op (.mv (.k (.slice none 0 0)))), none⟩])
  (.seq (.reg [⟨(some 7), (.op (.mv (.t 0))), none⟩, ⟨(some 8), (.call (.f 246) [(.t 7)]), none⟩, ⟨(some 5), (.op (.mv (.t 8))), none⟩])
  (.seq (.seq (.reg [⟨(some 9), (.op (.mv (.t 5))), none⟩, ⟨(some 10), (.op (.lenS (.t 9))), none⟩, ⟨(some 11), (.op (.mv (.k (.int .i64 0)))), none⟩])
  (.block 0 (.loop (.seq (.reg [⟨(some 12), (.op (.bin .lss (.t 11) (.t 10))), none⟩])
   (.seq (.cond (.t 12) .skip
   (.exit 0))
   (.seq (.block 1 (.seq (.reg [⟨(some 13), (.op (.mv (.t 11))), none⟩, ⟨(some 6), (.op (.mv (.t 13))), none⟩])
   (.seq (.dreg (.quiet ⟨(some 14), (.op (.mv (.t 5))), none⟩ (.quiet ⟨(some 15), (.op (.mv (.t 6))), none⟩ (.quiet ⟨(some 16), (.op (.iaddrS 2 (.t 14) (.t 15))), none⟩ (.quiet ⟨(some 17), (.op (.faddr 0 (.t 16))), none⟩ (.quiet ⟨(some 18), (.op (.load (.t 17))), none⟩ (.quiet ⟨(some 19), (.op (.faddr 0 (.t 3))), none⟩ (.quiet ⟨(some 20), (.op (.load (.t 19))), none⟩ (.quiet ⟨(some 21), (.op (.bin .eql (.t 18) (.t 20))), none⟩ .nil)))))))))
   (.cond (.t 21) (.seq (.reg [⟨(some 22), (.op (.mv (.t 5))), none⟩, ⟨(some 23), (.op (.mv (.t 6))), none⟩, ⟨(some 24), (.op (.faddr 1 (.t 3))), none⟩, ⟨(some 25), (.op (.load (.t 24))), none⟩, ⟨(some 26), (.op (.iaddrS 2 (.t 22) (.t 23))), none⟩, ⟨(some 27), (.op (.faddr 1 (.t 26))), none⟩, ⟨none, (.op (.store 1 (.t 27) (.t 25))), none⟩])
   (.seq (.reg [⟨(some 28), (.op (.mv (.t 5))), none⟩, ⟨(some 4), (.op (.mv (.t 28))), none⟩])
   .ret))
   .skip))))
   (.reg [⟨(some 29), (.op (.bin .add (.t 11) (.k (.int .i64 1)))), none⟩, ⟨(some 11), (.op (.mv (.t 29))), none⟩])))))))
  (.seq (.reg [⟨(some 30), (.op (.mv (.t 5))), none⟩, ⟨(some 31), (.op (.loadN 2 (.t 3))), none⟩, ⟨(some 32), (.op (.bslice 104 [(.int .i64 0), (.int .u64 0)] 1 [(0, 2, (.t 31))])), none⟩, ⟨(some 33), (.op (.append 104 2 16 (.t 30) (.t 32))), none⟩, ⟨(some 4), (.op (.mv (.t 33))), none⟩])
  .ret))))
def a215 : AF := ⟨34, [(.t 4)], .code b215, none⟩
theorem ok215 : AFOk Tryz.prog ext 215 a215 := .of Tryz.func215 (by kernel_rfl) (by kernel_rfl) (by kernel_rfl) (by kernel_rfl)
/-! 216: (*rowlock/writes.Log).Len -/
def b216 : AC :=
  (.seq (.reg [⟨(some 2), (.op (.mv (.k (.int .i64 0)))), none⟩])
  (.seq (.seq (.reg [⟨(some 5), (.op (.mv (.t 0))), none⟩, ⟨(some 6), (.op (.eq false .ptr (.t 5) (.k (.pointer none)))), none⟩])
  (.cond (.t 6) (.seq (.reg [⟨(some 2), (.op (.mv (.k (.int .i64 0)))), none⟩])
  .ret)
  .skip))
  (.seq (.reg [⟨(some 3), (.op (.alloc 3 [(.int .i64 0)])), none⟩, ⟨none, (.op (.store 1 (.t 3) (.k (.int .i64 0)))), none⟩])
  (.seq (.seq (.reg [⟨(some 7), (.op (.mv (.t 0))), none⟩, ⟨(some 8), (.op (.nilchk (.t 7))), none⟩, ⟨(some 9), (.op (.faddr 0 (.t 8))), none⟩, ⟨(some 10), (.op (.load (.t 9))), none⟩, ⟨(some 11), (.call (.f 163) [(.t 10)]), none⟩])
  (.block 0 (.rfunc (.t 11) [12] (.reg [⟨(some 4), (.op (.mv (.t 12))), none⟩])
   (.block 1 (.reg [⟨(some 13), (.op (.load (.t 3))), none⟩, ⟨(some 14), (.op (.mv (.t 4))), none⟩, ⟨(some 15), (.op (.lenS (.t 14))), none⟩, ⟨(some 16), (.op (.bin .add (.t 13) (.t 15))), none⟩, ⟨none, (.op (.store 1 (.t 3) (.t 16))), none⟩])))))
  (.seq (.reg [⟨(some 17), (.op (.load (.t 3))), none⟩, ⟨(some 2), (.op (.mv (.t 17))), none⟩])
  .ret)))))
def a216 : AF := ⟨18, [(.t 2)], .code b216, none⟩
theorem ok216 : AFOk Tryz.prog ext 216 a216 := .of Tryz.func216 (by kernel_rfl) (by kernel_rfl) (by kernel_rfl) (by kernel_rfl)
/-! 217: (*rowlock/writes.stack[rowlock/writes.frame]).all$1 -/
def b217 : AC :=
  (.block 0 (.loop (.seq (.seq (.reg [⟨(some 3), (.op (.load (.t 1))), none⟩, ⟨(some 4), (.op (.eq true .ptr (.t 3) (.k (.pointer none)))), none⟩])
   (.cond (.t 4) .skip
   (.exit 0)))
   (.seq (.block 1 (.seq (.reg [⟨(some 9), (.op (.mv (.t 0))), none⟩, ⟨(some 10), (.op (.load (.t 1))), none⟩, ⟨(some 11), (.op (.nilchk (.t 10))), none⟩, ⟨(some 12), (.op (.faddr 0 (.t 11))), none⟩, ⟨(some 13), (.op (.load (.t 12))), none⟩, ⟨(some 14), (.call (.t 9) [(.t 13)]), none⟩, ⟨(some 15), (.op (.un .not (.t 14))), none⟩])
   (.cond (.t 15) .ret
   .skip)))
   (.reg [⟨(some 5), (.op (.load (.t 1))), none⟩, ⟨(some 6), (.op (.nilchk (.t 5))), none⟩, ⟨(some 7), (.op (.faddr 1 (.t 6))), none⟩, ⟨(some 8), (.op (.load (.t 7))), none⟩, ⟨none, (.op (.store 1 (.t 1) (.t 8))), none⟩])))))
def a217 : AF := ⟨16, [], .code b217, none⟩
theorem ok217 : AFOk Tryz.prog ext 217 a217 := .of Tryz.func217 (by kernel_rfl) (by kernel_rfl) (by kernel_rfl) (by kernel_rfl)
/-! 218: (*rowlock/stripes.Table).Restore$1 -/
def b218 : AC :=
  (.seq (.reg [⟨(some 3), (.op (.mv (.k (.int .u64 0)))), none⟩, ⟨(some 4), (.op (.mv (.k (.int .i64 0)))), none⟩])
  (.seq (.reg [⟨(some 5), (.op (.mv (.t 0))), none⟩, ⟨(some 6), (.op (.load (.t 1))), none⟩, ⟨(some 7), (.call (.f 219) [(.t 5), (.t 6)]), none⟩, ⟨(some 8), (.op (.extract (.t 7) 0)), none⟩, ⟨(some 9), (.op (.extract (.t 7) 1)), none⟩, ⟨(some 3), (.op (.mv (.t 8))), none⟩, ⟨(some 4), (.op (.mv (.t 9))), none⟩])
  .ret))
def a218 : AF := ⟨10, [(.t 3), (.t 4)], .code b218, none⟩
theorem ok218 : AFOk Tryz.prog ext 218 a218 := .of Tryz.func218 (by kernel_rfl) (by kernel_rfl) (by kernel_rfl) (by kernel_rfl)
/-! 219: rowlock/lockword.Restore -/
def b219 : AC :=
  (.seq (.reg [⟨(some 4), (.op (.mv (.k (.int .u64 0)))), none⟩, ⟨(some 5), (.op (.mv (.k (.int .i64 0)))), none⟩])
  (.seq (.reg [⟨(some 9), (.op (.mv (.t 0))), none⟩, ⟨(some 10), (.op (.mv (.t 1))), none⟩, ⟨(some 11), (.call (.f 244) [(.t 9), (.t 10)]), none⟩, ⟨(some 8), (.op (.mv (.t 11))), none⟩, ⟨(some 12), (.op (.extract (.t 8) 0)), none⟩, ⟨(some 13), (.op (.extract (.t 8) 1)), none⟩, ⟨(some 6), (.op (.alloc 209 [(.int .i64 0), (.int .u64 0)])), none⟩, ⟨none, (.op (.store 2 (.t 6) (.t 12))), none⟩, ⟨(some 7), (.op (.mv (.t 13))), none⟩])
  (.seq (.block 0 (.seq (.reg [⟨(some 15), (.op (.mv (.t 7))), none⟩, ⟨(some 16), (.op (.bin .neq (.t 15) (.k (.int .i64 0)))), none⟩, ⟨(some 14), (.op (.mv (.t 16))), none⟩])
  (.cond (.t 14) (.seq (.reg [⟨(some 17), (.op (.mv (.t 7))), none⟩, ⟨(some 4), (.op (.mv (.k (.int .u64 0)))), none⟩, ⟨(some 5), (.op (.mv (.t 17))), none⟩])
  .ret)
  (.seq (.reg [⟨(some 19), (.op (.faddr 0 (.t 6))), none⟩, ⟨(some 20), (.op (.load (.t 19))), none⟩, ⟨(some 21), (.op (.mv (.t 1))), none⟩, ⟨(some 22), (.op (.bin .neq (.t 20) (.t 21))), none⟩, ⟨(some 18), (.op (.mv (.t 22))), none⟩])
  (.cond (.t 18) (.seq (.reg [⟨(some 4), (.op (.mv (.k (.int .u64 0)))), none⟩, ⟨(some 5), (.op (.mv (.k (.int .i64 8)))), none⟩])
  .ret)
  .skip)))))
  (.seq (.reg [⟨(some 23), (.op (.faddr 1 (.t 6))), none⟩, ⟨(some 24), (.op (.load (.t 23))), none⟩, ⟨(some 25), (.call (.f 245) [(.t 24)]), none⟩, ⟨(some 26), (.op (.extract (.t 25) 0)), none⟩, ⟨(some 27), (.op (.extract (.t 25) 1)), none⟩, ⟨(some 4), (.op (.mv (.t 26))), none⟩, ⟨(some 5), (.op (.mv (.t 27))), none⟩])
  .ret))))
def a219 : AF := ⟨28, [(.t 4), (.t 5)], .code b219, none⟩
theorem ok219 : AFOk Tryz.prog ext 219 a219 := .of Tryz.func219 (by kernel_rfl) (by kernel_rfl) (by kernel_rfl) (by kernel_rfl)
/-! 230: (*rowlock/rowlockref04.Table).Restore -/
def b230 : AC :=
  (.seq (.reg [⟨(some 6), (.op (.mv (.k (.int .i64 0)))), none⟩])
  (.seq (.seq (.reg [⟨(some 10), (.op (.mv (.t 0))), none⟩, ⟨(some 11), (.op (.mv (.t 2))), none⟩, ⟨(some 12), (.call (.f 201) [(.t 10), (.t 11)]), none⟩, ⟨(some 7), (.op (.mv (.t 12))), none⟩])
  (.seq (.reg [⟨(some 13), (.op (.mv (.t 7))), none⟩, ⟨(some 14), (.op (.bin .neq (.t 13) (.k (.int .i64 0)))), none⟩])
  (.cond (.t 14) (.seq (.reg [⟨(some 15), (.op (.mv (.t 7))), none⟩, ⟨(some 6), (.op (.mv (.t 15))), none⟩])
  .ret)
  .skip)))
  (.seq (.reg [⟨(some 17), (.op (.mv (.t 0))), none⟩, ⟨(some 18), (.op (.nilchk (.t 17))), none⟩, ⟨(some 19), (.op (.faddr 0 (.t 18))), none⟩, ⟨(some 20), (.op (.load (.t 19))), none⟩, ⟨(some 21), (.op (.mv (.t 2))), none⟩, ⟨(some 22), (.op (.iaddrS 1 (.t 20) (.t 21))), none⟩, ⟨(some 23), (.op (.load (.t 22))), none⟩, ⟨(some 24), (.op (.mv (.t 1))), none⟩, ⟨(some 25), (.call (.f 249) [(.t 23), (.t 24)]), none⟩, ⟨(some 16), (.op (.mv (.t 25))), none⟩, ⟨(some 26), (.op (.extract (.t 16) 0)), none⟩, ⟨(some 27), (.op (.extract (.t 16) 1)), none⟩, ⟨(some 8), (.op (.mv (.t 26))), none⟩, ⟨(some 9), (.op (.mv (.t 27))), none⟩])
  (.seq (.seq (.reg [⟨(some 28), (.op (.mv (.t 9))), none⟩, ⟨(some 29), (.op (.bin .eql (.t 28) (.k (.int .i64 0)))), none⟩])
  (.cond (.t 29) (.reg [⟨(some 30), (.op (.mv (.t 0))), none⟩, ⟨(some 31), (.op (.nilchk (.t 30))), none⟩, ⟨(some 32), (.op (.faddr 0 (.t 31))), none⟩, ⟨(some 33), (.op (.load (.t 32))), none⟩, ⟨(some 34), (.op (.mv (.t 2))), none⟩, ⟨(some 35), (.op (.mv (.t 8))), none⟩, ⟨(some 36), (.op (.iaddrS 1 (.t 33) (.t 34))), none⟩, ⟨none, (.op (.store 1 (.t 36) (.t 35))), none⟩])
  .skip))
  (.seq (.reg [⟨(some 37), (.op (.mv (.t 9))), none⟩, ⟨(some 6), (.op (.mv (.t 37))), none⟩])
  .ret)))))
def a230 : AF := ⟨38, [(.t 6)], .code b230, none⟩
theorem ok230 : AFOk Tryz.prog ext 230 a230 := .of Tryz.func230 (by kernel_rfl) (by kernel_rfl) (by kernel_rfl) (by kernel_rfl)
/-! 234: rowlock/rowlockref03.Unlock -/
def b234 : AC :=
  (.seq (.reg [⟨(some 6), (.op (.mv (.k (.int .u64 0)))), none⟩, ⟨(some 7), (.op (.mv (.k (.int .i64 0)))), none⟩])
  (.seq (.reg [⟨(some 12), (.op (.mv (.t 0))), none⟩, ⟨(some 13), (.call (.f 203) [(.t 12)]), none⟩, ⟨(some 11), (.op (.mv (.t 13))), none⟩, ⟨(some 14), (.op (.extract (.t 11) 0)), none⟩, ⟨(some 15), (.op (.extract (.t 11) 1)), none⟩, ⟨(some 16), (.op (.extract (.t 11) 2)), none⟩, ⟨(some 8), (.op (.mv (.t 14))), none⟩, ⟨(some 9), (.op (.mv (.t 15))), none⟩, ⟨(some 10), (.op (.mv (.t 16))), none⟩])
  (.seq (.block 0 (.seq (.reg [⟨(some 18), (.op (.mv (.t 10))), none⟩, ⟨(some 19), (.op (.bin .neq (.t 18) (.k (.int .i64 0)))), none⟩, ⟨(some 17), (.op (.mv (.t 19))), none⟩])
  (.cond (.t 17) (.seq (.reg [⟨(some 20), (.op (.mv (.t 10))), none⟩, ⟨(some 6), (.op (.mv (.k (.int .u64 0)))), none⟩, ⟨(some 7), (.op (.mv (.t 20))), none⟩])
  .ret)
  (.seq (.reg [⟨(some 22), (.op (.mv (.t 1))), none⟩, ⟨(some 23), (.call (.f 252) [(.t 22)]), none⟩, ⟨(some 24), (.op (.un .not (.t 23))), none⟩, ⟨(some 25), (.op (.mv (.t 24))), none⟩, ⟨(some 26), (.op (.mv (.t 2))), (some (25, false))⟩, ⟨(some 27), (.op (.bin .gtr (.t 26) (.k (.int .u64 1099511627776)))), (some (25, false))⟩, ⟨(some 28), (.op (.pick (.t 25) (.k (.bool true)) (.t 27))), none⟩, ⟨(some 21), (.op (.mv (.t 28))), none⟩])
  (.cond (.t 21) (.seq (.reg [⟨(some 6), (.op (.mv (.k (.int .u64 0)))), none⟩, ⟨(some 7), (.op (.mv (.k (.int .i64 2)))), none⟩])
  .ret)
  (.seq (.reg [⟨(some 30), (.op (.mv (.t 8))), none⟩, ⟨(some 31), (.op (.mv (.t 1))), none⟩, ⟨(some 32), (.op (.bin .neq (.t 30) (.t 31))), none⟩, ⟨(some 33), (.op (.mv (.t 32))), none⟩, ⟨(some 34), (.op (.mv (.t 2))), (some (33, false))⟩, ⟨(some 35), (.op (.mv (.t 9))), (some (33, false))⟩, ⟨(some 36), (.op (.bin .lss (.t 34) (.t 35))), (some (33, false))⟩, ⟨(some 37), (.op (.pick (.t 33) (.k (.bool true)) (.t 36))), none⟩, ⟨(some 29), (.op (.mv (.t 37))), none⟩])
  (.cond (.t 29) (.seq (.reg [⟨(some 6), (.op (.mv (.k (.int .u64 0)))), none⟩, ⟨(some 7), (.op (.mv (.k (.int .i64 8)))), none⟩])
  .ret)
  .skip)))))))
  (.seq (.reg [⟨(some 38), (.op (.mv (.t 2))), none⟩, ⟨(some 39), (.call (.f 253) [(.t 38)]), none⟩, ⟨(some 40), (.op (.extract (.t 39) 0)), none⟩, ⟨(some 41), (.op (.extract (.t 39) 1)), none⟩, ⟨(some 6), (.op (.mv (.t 40))), none⟩, ⟨(some 7), (.op (.mv (.t 41))), none⟩])
  .ret))))
def a234 : AF := ⟨42, [(.t 6), (.t 7)], .code b234, none⟩
theorem ok234 : AFOk Tryz.prog ext 234 a234 := .of Tryz.func234 (by kernel_rfl) (by kernel_rfl) (by kernel_rfl) (by kernel_rfl)
/-! 237: rowlock/rowlockref03.Held -/
def b237 : AC :=
  (.seq (.reg [⟨(some 4), (.op (.mv (.k (.int .u64 0)))), none⟩, ⟨(some 5), (.op (.mv (.k (.int .i64 0)))), none⟩])
  (.seq (.seq (.reg [⟨(some 6), (.op (.mv (.t 0))), none⟩, ⟨(some 7), (.call (.f 252) [(.t 6)]), none⟩, ⟨(some 8), (.op (.un .not (.t 7))), none⟩, ⟨(some 9), (.op (.mv (.t 8))), none⟩, ⟨(some 10), (.op (.mv (.t 1))), (some (9, false))⟩, ⟨(some 11), (.op (.bin .gtr (.t 10) (.k (.int .u64 1099511627776)))), (some (9, false))⟩, ⟨(some 12), (.op (.pick (.t 9) (.k (.bool true)) (.t 11))), none⟩])
  (.cond (.t 12) (.seq (.reg [⟨(some 4), (.op (.mv (.k (.int .u64 0)))), none⟩, ⟨(some 5), (.op (.mv (.k (.int .i64 2)))), none⟩])
  .ret)
  .skip))
  (.seq (.reg [⟨(some 13), (.op (.mv (.t 1))), none⟩, ⟨(some 14), (.op (.bin .mul (.t 13) (.k (.int .u64 32)))), none⟩, ⟨(some 15), (.op (.mv (.t 0))), none⟩, ⟨(some 16), (.op (.conv (.int .u64) (.t 15))), none⟩, ⟨(some 17), (.op (.bin .mul (.t 16) (.k (.int .u64 2)))), none⟩, ⟨(some 18), (.op (.bin .add (.t 14) (.t 17))), none⟩, ⟨(some 19), (.op (.bin .add (.t 18) (.k (.int .u64 1)))), none⟩, ⟨(some 4), (.op (.mv (.t 19))), none⟩, ⟨(some 5), (.op (.mv (.k (.int .i64 0)))), none⟩])
  .ret)))
def a237 : AF := ⟨20, [(.t 4), (.t 5)], .code b237, none⟩
theorem ok237 : AFOk Tryz.prog ext 237 a237 := .of Tryz.func237 (by kernel_rfl) (by kernel_rfl) (by kernel_rfl) (by kernel_rfl)
/-! 238: rowlock/lockword.may -/
def b238 : AC :=
  (.seq (.reg [⟨(some 2), (.op (.mv (.k (.bool false)))), none⟩])
  (.seq (.reg [⟨(some 3), (.op (.mv (.t 0))), none⟩, ⟨(some 4), (.op (.bin .geq (.t 3) (.k (.int .i64 0)))), none⟩, ⟨(some 5), (.op (.mv (.t 4))), none⟩, ⟨(some 6), (.op (.mv (.t 0))), (some (5, true))⟩, ⟨(some 7), (.op (.bin .lss (.t 6) (.k (.int .i64 4)))), (some (5, true))⟩, ⟨(some 8), (.op (.pick (.t 5) (.t 7) (.k (.bool false)))), none⟩, ⟨(some 2), (.op (.mv (.t 8))), none⟩])
  .ret))
def a238 : AF := ⟨9, [(.t 2)], .code b238, none⟩
theorem ok238 : AFOk Tryz.prog ext 238 a238 := .of Tryz.func238 (by kernel_rfl) (by kernel_rfl) (by kernel_rfl) (by kernel_rfl)
/-! 239: (*rowlock/stripes.Table).Stripes -/
def b239 : AC :=
  (.seq (.reg [⟨(some 4), (.op (.mv (.k (.slice none 0 0)))), none⟩])
  (.seq (.reg [⟨(some 5), (.op (.mv (.k (.slice none 0 0)))), none⟩])
  (.seq (.seq (.reg [⟨(some 9), (.op (.mv (.t 1))), none⟩, ⟨(some 10), (.op (.lenS (.t 9))), none⟩, ⟨(some 11), (.op (.mv (.k (.int .i64 0)))), none⟩])
  (.block 0 (.loop (.seq (.reg [⟨(some 12), (.op (.bin .lss (.t 11) (.t 10))), none⟩])
   (.seq (.cond (.t 12) .skip
   (.exit 0))
   (.seq (.block 1 (.seq (.reg [⟨(some 13), (.op (.iaddrS 1 (.t 9) (.t 11))), none⟩, ⟨(some 14), (.op (.load (.t 13))), none⟩, ⟨(some 7), (.op (.mv (.t 14))), none⟩])
   (.seq (.reg [⟨(some 15), (.op (.mv (.t 0))), none⟩, ⟨(some 16), (.op (.mv (.t 7))), none⟩, ⟨(some 17), (.call (.f 103) [(.t 15), (.t 16)]), none⟩, ⟨(some 8), (.op (.mv (.t 17))), none⟩])
   (.seq (.reg [⟨(some 18), (.op (.mv (.t 8))), none⟩, ⟨(some 19), (.op (.bin .geq (.t 18) (.k (.int .i64 0)))), none⟩])
   (.cond (.t 19) (.reg [⟨(some 20), (.op (.mv (.t 5))), none⟩, ⟨(some 21), (.op (.mv (.t 8))), none⟩, ⟨(some 22), (.op (.bslice 3 [(.int .i64 0)] 1 [(0, 1, (.t 21))])), none⟩, ⟨(some 23), (.op (.append 3 1 8 (.t 20) (.t 22))), none⟩, ⟨(some 5), (.op (.mv (.t 23))), none⟩])
   .skip)))))
   (.reg [⟨(some 24), (.op (.bin .add (.t 11) (.k (.int .i64 1)))), none⟩, ⟨(some 11), (.op (.mv (.t 24))), none⟩])))))))
  (.seq (.reg [⟨(some 25), (.op (.mv (.t 5))), none⟩, ⟨(some 26), (.call (.f 57) [(.t 25)]), none⟩])
  (.seq (.reg [⟨(some 27), (.op (.mv (.t 5))), none⟩, ⟨(some 28), (.call (.f 254) [(.t 27)]), none⟩, ⟨(some 4), (.op (.mv (.t 28))), none⟩])
  .ret)))))
def a239 : AF := ⟨29, [(.t 4)], .code b239, none⟩
theorem ok239 : AFOk Tryz.prog ext 239 a239 := .of Tryz.func239 (by kernel_rfl) (by kernel_rfl) (by kernel_rfl) (by kernel_rfl)
/-! 240: slices.Index[[]int,int] -/
def b240 : AC :=
  (.seq (.reg [⟨(some 4), (.op (.mv (.k (.int .i64 0)))), none⟩])
  (.seq (.seq (.reg [⟨(some 6), (.op (.mv (.t 0))), none⟩, ⟨(some 7), (.op (.lenS (.t 6))), none⟩, ⟨(some 8), (.op (.mv (.k (.int .i64 0)))), none⟩])
  (.block 0 (.loop (.seq (.reg [⟨(some 9), (.op (.bin .lss (.t 8) (.t 7))), none⟩])
   (.seq (.cond (.t 9) .skip
   (.exit 0))
   (.seq (.block 1 (.seq (.reg [⟨(some 10), (.op (.mv (.t 8))), none⟩, ⟨(some 5), (.op (.mv (.t 10))), none⟩])
   (.seq (.reg [⟨(some 11), (.op (.mv (.t 1))), none⟩, ⟨(some 12), (.op (.mv (.t 0))), none⟩, ⟨(some 13), (.op (.mv (.t 5))), none⟩, ⟨(some 14), (.op (.iaddrS 1 (.t 12) (.t 13))), none⟩, ⟨(some 15), (.op (.load (.t 14))), none⟩, ⟨(some 16), (.op (.bin .eql (.t 11) (.t 15))), none⟩])
   (.cond (.t 16) (.seq (.reg [⟨(some 17), (.op (.mv (.t 5))), none⟩, ⟨(some 4), (.op (.mv (.t 17))), none⟩])
   .ret)
   .skip))))
   (.reg [⟨(some 18), (.op (.bin .add (.t 8) (.k (.int .i64 1)))), none⟩, ⟨(some 8), (.op (.mv (.t 18))), none⟩])))))))
  (.seq (.reg [⟨(some 4), (.op (.mv (.k (.int .i64 (-1))))), none⟩])
  .ret)))
def a240 : AF := ⟨19, [(.t 4)], .code b240, none⟩
theorem ok240 : AFOk Tryz.prog ext 240 a240 := .of Tryz.func240 (by kernel_rfl) (by kernel_rfl) (by kernel_rfl) (by kernel_rfl)
/-! 241: (*rowlock/stripes.Table).Lock$1 -/
def b241 : AC :=
  (.seq (.reg [⟨(some 3), (.op (.mv (.k (.int .u64 0)))), none⟩, ⟨(some 4), (.op (.mv (.k (.int .i64 0)))), none⟩])
  (.seq (.reg [⟨(some 5), (.op (.mv (.t 0))), none⟩, ⟨(some 6), (.op (.load (.t 1))), none⟩, ⟨(some 7), (.call (.f 242) [(.t 5), (.t 6)]), none⟩, ⟨(some 8), (.op (.extract (.t 7) 0)), none⟩, ⟨(some 9), (.op (.extract (.t 7) 1)), none⟩, ⟨(some 3), (.op (.mv (.t 8))), none⟩, ⟨(some 4), (.op (.mv (.t 9))), none⟩])
  .ret))
def a241 : AF := ⟨10, [(.t 3), (.t 4)], .code b241, none⟩
theorem ok241 : AFOk Tryz.prog ext 241 a241 := .of Tryz.func241 (by kernel_rfl) (by kernel_rfl) (by kernel_rfl) (by kernel_rfl)
/-! 242: rowlock/lockword.Lock -/
def b242 : AC :=
  (.seq (.reg [⟨(some 4), (.op (.mv (.k (.int .u64 0)))), none⟩, ⟨(some 5), (.op (.mv (.k (.int .i64 0)))), none⟩])
  (.seq (.reg [⟨(some 9), (.op (.mv (.t 0))), none⟩, ⟨(some 10), (.op (.mv (.t 1))), none⟩, ⟨(some 11), (.call (.f 244) [(.t 9), (.t 10)]), none⟩, ⟨(some 8), (.op (.mv (.t 11))), none⟩, ⟨(some 12), (.op (.extract (.t 8) 0)), none⟩, ⟨(some 13), (.op (.extract (.t 8) 1)), none⟩, ⟨(some 6), (.op (.alloc 209 [(.int .i64 0), (.int .u64 0)])), none⟩, ⟨none, (.op (.store 2 (.t 6) (.t 12))), none⟩, ⟨(some 7), (.op (.mv (.t 13))), none⟩])
  (.seq (.block 0 (.seq (.reg [⟨(some 15), (.op (.mv (.t 7))), none⟩, ⟨(some 16), (.op (.bin .neq (.t 15) (.k (.int .i64 0)))), none⟩, ⟨(some 14), (.op (.mv (.t 16))), none⟩])
  (.cond (.t 14) (.seq (.reg [⟨(some 17), (.op (.mv (.t 7))), none⟩, ⟨(some 4), (.op (.mv (.k (.int .u64 0)))), none⟩, ⟨(some 5), (.op (.mv (.t 17))), none⟩])
  .ret)
  (.seq (.reg [⟨(some 19), (.op (.faddr 0 (.t 6))), none⟩, ⟨(some 20), (.op (.load (.t 19))), none⟩, ⟨(some 21), (.op (.mv (.t 1))), none⟩, ⟨(some 22), (.op (.bin .eql (.t 20) (.t 21))), none⟩, ⟨(some 18), (.op (.mv (.t 22))), none⟩])
  (.cond (.t 18) (.seq (.reg [⟨(some 4), (.op (.mv (.k (.int .u64 0)))), none⟩, ⟨(some 5), (.op (.mv (.k (.int .i64 6)))), none⟩])
  .ret)
  (.seq (.reg [⟨(some 24), (.op (.faddr 0 (.t 6))), none⟩, ⟨(some 25), (.op (.load (.t 24))), none⟩, ⟨(some 26), (.op (.bin .neq (.t 25) (.k (.int .i64 (-1))))), none⟩, ⟨(some 23), (.op (.mv (.t 26))), none⟩])
  (.cond (.t 23) (.seq (.reg [⟨(some 4), (.op (.mv (.k (.int .u64 0)))), none⟩, ⟨(some 5), (.op (.mv (.k (.int .i64 7)))), none⟩])
  .ret)
  .skip)))))))
  (.seq (.reg [⟨(some 27), (.op (.mv (.t 1))), none⟩, ⟨(some 28), (.op (.faddr 1 (.t 6))), none⟩, ⟨(some 29), (.op (.load (.t 28))), none⟩, ⟨(some 30), (.op (.build [(.int .i64 0), (.int .u64 0)] [(0, 1, (.t 27)), (1, 1, (.t 29))])), none⟩, ⟨(some 31), (.call (.f 255) [(.t 30)]), none⟩, ⟨(some 32), (.op (.extract (.t 31) 0)), none⟩, ⟨(some 33), (.op (.extract (.t 31) 1)), none⟩, ⟨(some 4), (.op (.mv (.t 32))), none⟩, ⟨(some 5), (.op (.mv (.t 33))), none⟩])
  .ret))))
def a242 : AF := ⟨34, [(.t 4), (.t 5)], .code b242, none⟩
theorem ok242 : AFOk Tryz.prog ext 242 a242 := .of Tryz.func242 (by kernel_rfl) (by kernel_rfl) (by kernel_rfl) (by kernel_rfl)
/-! 243: (*rowlock/stripes.clock).tick -/
def b243 : AC :=
  (.seq (.reg [⟨(some 2), (.op (.mv (.k (.int .u64 0)))), none⟩, ⟨(some 3), (.op (.mv (.k (.int .i64 0)))), none⟩])
  (.seq (.reg [⟨(some 7), (.op (.mv (.t 0))), none⟩, ⟨(some 8), (.op (.nilchk (.t 7))), none⟩, ⟨(some 9), (.op (.faddr 0 (.t 8))), none⟩, ⟨(some 10), (.op (.load (.t 9))), none⟩, ⟨(some 11), (.call (.f 256) [(.t 10)]), none⟩, ⟨(some 6), (.op (.mv (.t 11))), none⟩, ⟨(some 12), (.op (.extract (.t 6) 0)), none⟩, ⟨(some 13), (.op (.extract (.t 6) 1)), none⟩, ⟨(some 4), (.op (.mv (.t 12))), none⟩, ⟨(some 5), (.op (.mv (.t 13))), none⟩])
  (.seq (.seq (.reg [⟨(some 14), (.op (.mv (.t 5))), none⟩, ⟨(some 15), (.op (.bin .neq (.t 14) (.k (.int .i64 0)))), none⟩])
  (.cond (.t 15) (.seq (.reg [⟨(some 16), (.op (.mv (.t 5))), none⟩, ⟨(some 2), (.op (.mv (.k (.int .u64 0)))), none⟩, ⟨(some 3), (.op (.mv (.t 16))), none⟩])
  .ret)
  .skip))
  (.seq (.reg [⟨(some 17), (.op (.mv (.t 0))), none⟩, ⟨(some 18), (.op (.mv (.t 4))), none⟩, ⟨(some 19), (.op (.nilchk (.t 17))), none⟩, ⟨(some 20), (.op (.faddr 0 (.t 19))), none⟩, ⟨none, (.op (.store 1 (.t 20) (.t 18))), none⟩])
  (.seq (.reg [⟨(some 21), (.op (.mv (.t 4))), none⟩, ⟨(some 2), (.op (.mv (.t 21))), none⟩, ⟨(some 3), (.op (.mv (.k (.int .i64 0)))), none⟩])
  .ret)))))
def a243 : AF := ⟨22, [(.t 2), (.t 3)], .code b243, none⟩
theorem ok243 : AFOk Tryz.prog ext 243 a243 := .of Tryz.func243 (by kernel_rfl) (by kernel_rfl) (by kernel_rfl) (by kernel_rfl)
/-! 244: rowlock/lockword.of -/
def b244 : AC :=
  (.seq (.reg [⟨(some 4), (.op (.alloc 209 [(.int .i64 0), (.int .u64 0)])), none⟩, ⟨(some 5), (.op (.mv (.k (.int .i64 0)))), none⟩])
  (.seq (.reg [⟨(some 9), (.op (.mv (.t 0))), none⟩, ⟨(some 10), (.call (.f 149) [(.t 9)]), none⟩, ⟨(some 8), (.op (.mv (.t 10))), none⟩, ⟨(some 11), (.op (.extract (.t 8) 0)), none⟩, ⟨(some 12), (.op (.extract (.t 8) 1)), none⟩, ⟨(some 6), (.op (.alloc 209 [(.int .i64 0), (.int .u64 0)])), none⟩, ⟨none, (.op (.store 2 (.t 6) (.t 11))), none⟩, ⟨(some 7), (.op (.mv (.t 12))), none⟩])
  (.seq (.block 0 (.seq (.reg [⟨(some 14), (.op (.mv (.t 7))), none⟩, ⟨(some 15), (.op (.un .not (.t 14))), none⟩, ⟨(some 13), (.op (.mv (.t 15))), none⟩])
  (.cond (.t 13) (.seq (.reg [⟨(some 16), (.op (.build [(.int .i64 0), (.int .u64 0)] [])), none⟩, ⟨none, (.op (.store 2 (.t 4) (.t 16))), none⟩, ⟨(some 5), (.op (.mv (.k (.int .i64 3)))), none⟩])
  .ret)
  (.seq (.reg [⟨(some 18), (.op (.mv (.t 1))), none⟩, ⟨(some 19), (.call (.f 238) [(.t 18)]), none⟩, ⟨(some 20), (.op (.un .not (.t 19))), none⟩, ⟨(some 17), (.op (.mv (.t 20))), none⟩])
  (.cond (.t 17) (.seq (.reg [⟨(some 21), (.op (.build [(.int .i64 0), (.int .u64 0)] [])), none⟩, ⟨none, (.op (.store 2 (.t 4) (.t 21))), none⟩, ⟨(some 5), (.op (.mv (.k (.int .i64 2)))), none⟩])
  .ret)
  .skip)))))
  (.seq (.reg [⟨(some 22), (.op (.loadN 2 (.t 6))), none⟩, ⟨none, (.op (.store 2 (.t 4) (.t 22))), none⟩, ⟨(some 5), (.op (.mv (.k (.int .i64 0)))), none⟩])
  .ret))))
def a244 : AF := ⟨23, [(.c 4 true 2), (.t 5)], .code b244, none⟩
theorem ok244 : AFOk Tryz.prog ext 244 a244 := .of Tryz.func244 (by kernel_rfl) (by kernel_rfl) (by kernel_rfl) (by kernel_rfl)
/-! 245: rowlock/lockword.Free -/
def b245 : AC :=
  (.seq (.reg [⟨(some 2), (.op (.mv (.k (.int .u64 0)))), none⟩, ⟨(some 3), (.op (.mv (.k (.int .i64 0)))), none⟩])
  (.seq (.reg [⟨(some 4), (.op (.mv (.t 0))), none⟩, ⟨(some 5), (.op (.build [(.int .i64 0), (.int .u64 0)] [(0, 1, (.k (.int .i64 (-1)))), (1, 1, (.t 4))])), none⟩, ⟨(some 6), (.call (.f 255) [(.t 5)]), none⟩, ⟨(some 7), (.op (.extract (.t 6) 0)), none⟩, ⟨(some 8), (.op (.extract (.t 6) 1)), none⟩, ⟨(some 2), (.op (.mv (.t 7))), none⟩, ⟨(some 3), (.op (.mv (.t 8))), none⟩])
  .ret))
def a245 : AF := ⟨9, [(.t 2), (.t 3)], .code b245, none⟩
theorem ok245 : AFOk Tryz.prog ext 245 a245 := .of Tryz.func245 (by kernel_rfl) (by kernel_rfl) (by kernel_rfl) (by kernel_rfl)
/-! 246: slices.Clone[rowlock/writes.frame,rowlock/api.Pair] -/
def b246 : AC :=
  (.seq (.reg [⟨(some 2), (.op (.mv (.k (.slice none 0 0)))), none⟩])
  (.seq (.seq (.reg [⟨(some 3), (.op (.mv (.t 0))), none⟩, ⟨(some 4), (.isnil false (.t 3)), none⟩])
  (.cond (.t 4) (.seq (.reg [⟨(some 2), (.op (.mv (.k (.slice none 0 0)))), none⟩])
  .ret)
  .skip))
  (.seq (.reg [⟨(some 5), (.op (.bslice 104 [] 0 [])), none⟩, ⟨(some 6), (.op (.mv (.t 0))), none⟩, ⟨(some 7), (.op (.append 104 2 16 (.t 5) (.t 6))), none⟩, ⟨(some 2), (.op (.mv (.t 7))), none⟩])
  .ret)))
def a246 : AF := ⟨8, [(.t 2)], .code b246, none⟩
theorem ok246 : AFOk Tryz.prog ext 246 a246 := .of Tryz.func246 (by kernel_rfl) (by kernel_rfl) (by kernel_rfl) (by kernel_rfl)
/-! 249: rowlock/rowlockref03.Restore -/
def b249 : AC :=
  (.seq (.reg [⟨(some 4), (.op (.mv (.k (.int .u64 0)))), none⟩, ⟨(some 5), (.op (.mv (.k (.int .i64 0)))), none⟩])
  (.seq (.reg [⟨(some 10), (.op (.mv (.t 0))), none⟩, ⟨(some 11), (.call (.f 203) [(.t 10)]), none⟩, ⟨(some 9), (.op (.mv (.t 11))), none⟩, ⟨(some 12), (.op (.extract (.t 9) 0)), none⟩, ⟨(some 13), (.op (.extract (.t 9) 1)), none⟩, ⟨(some 14), (.op (.extract (.t 9) 2)), none⟩, ⟨(some 6), (.op (.mv (.t 12))), none⟩, ⟨(some 7), (.op (.mv (.t 13))), none⟩, ⟨(some 8), (.op (.mv (.t 14))), none⟩])
  (.seq (.block 0 (.seq (.reg [⟨(some 16), (.op (.mv (.t 8))), none⟩, ⟨(some 17), (.op (.bin .neq (.t 16) (.k (.int .i64 0)))), none⟩, ⟨(some 15), (.op (.mv (.t 17))), none⟩])
  (.cond (.t 15) (.seq (.reg [⟨(some 18), (.op (.mv (.t 8))), none⟩, ⟨(some 4), (.op (.mv (.k (.int .u64 0)))), none⟩, ⟨(some 5), (.op (.mv (.t 18))), none⟩])
  .ret)
  (.seq (.reg [⟨(some 20), (.op (.mv (.t 1))), none⟩, ⟨(some 21), (.call (.f 252) [(.t 20)]), none⟩, ⟨(some 22), (.op (.un .not (.t 21))), none⟩, ⟨(some 19), (.op (.mv (.t 22))), none⟩])
  (.cond (.t 19) (.seq (.reg [⟨(some 4), (.op (.mv (.k (.int .u64 0)))), none⟩, ⟨(some 5), (.op (.mv (.k (.int .i64 2)))), none⟩])
  .ret)
  (.seq (.reg [⟨(some 24), (.op (.mv (.t 6))), none⟩, ⟨(some 25), (.op (.mv (.t 1))), none⟩, ⟨(some 26), (.op (.bin .neq (.t 24) (.t 25))), none⟩, ⟨(some 23), (.op (.mv (.t 26))), none⟩])
  (.cond (.t 23) (.seq (.reg [⟨(some 4), (.op (.mv (.k (.int .u64 0)))), none⟩, ⟨(some 5), (.op (.mv (.k (.int .i64 8)))), none⟩])
  .ret)
  .skip)))))))
  (.seq (.reg [⟨(some 27), (.op (.mv (.t 7))), none⟩, ⟨(some 28), (.call (.f 253) [(.t 27)]), none⟩, ⟨(some 29), (.op (.extract (.t 28) 0)), none⟩, ⟨(some 30), (.op (.extract (.t 28) 1)), none⟩, ⟨(some 4), (.op (.mv (.t 29))), none⟩, ⟨(some 5), (.op (.mv (.t 30))), none⟩])
  .ret))))
def a249 : AF := ⟨31, [(.t 4), (.t 5)], .code b249, none⟩
theorem ok249 : AFOk Tryz.prog ext 249 a249 := .of Tryz.func249 (by kernel_rfl) (by kernel_rfl) (by kernel_rfl) (by kernel_rfl)
/-! 250: rowlock/rowlockref03.Lock -/
def b250 : AC :=
  (.seq (.reg [⟨(some 4), (.op (.mv (.k (.int .u64 0)))), none⟩, ⟨(some 5), (.op (.mv (.k (.int .i64 0)))), none⟩])
  (.seq (.reg [⟨(some 10), (.op (.mv (.t 0))), none⟩, ⟨(some 11), (.call (.f 203) [(.t 10)]), none⟩, ⟨(some 9), (.op (.mv (.t 11))), none⟩, ⟨(some 12), (.op (.extract (.t 9) 0)), none⟩, ⟨(some 13), (.op (.extract (.t 9) 1)), none⟩, ⟨(some 14), (.op (.extract (.t 9) 2)), none⟩, ⟨(some 6), (.op (.mv (.t 12))), none⟩, ⟨(some 7), (.op (.mv (.t 13))), none⟩, ⟨(some 8), (.op (.mv (.t 14))), none⟩])
  (.seq (.block 0 (.seq (.reg [⟨(some 16), (.op (.mv (.t 8))), none⟩, ⟨(some 17), (.op (.bin .neq (.t 16) (.k (.int .i64 0)))), none⟩, ⟨(some 15), (.op (.mv (.t 17))), none⟩])
  (.cond (.t 15) (.seq (.reg [⟨(some 18), (.op (.mv (.t 8))), none⟩, ⟨(some 4), (.op (.mv (.k (.int .u64 0)))), none⟩, ⟨(some 5), (.op (.mv (.t 18))), none⟩])
  .ret)
  (.seq (.reg [⟨(some 20), (.op (.mv (.t 1))), none⟩, ⟨(some 21), (.call (.f 252) [(.t 20)]), none⟩, ⟨(some 22), (.op (.un .not (.t 21))), none⟩, ⟨(some 19), (.op (.mv (.t 22))), none⟩])
  (.cond (.t 19) (.seq (.reg [⟨(some 4), (.op (.mv (.k (.int .u64 0)))), none⟩, ⟨(some 5), (.op (.mv (.k (.int .i64 2)))), none⟩])
  .ret)
  (.seq (.reg [⟨(some 24), (.op (.mv (.t 6))), none⟩, ⟨(some 25), (.op (.mv (.t 1))), none⟩, ⟨(some 26), (.op (.bin .eql (.t 24) (.t 25))), none⟩, ⟨(some 23), (.op (.mv (.t 26))), none⟩])
  (.cond (.t 23) (.seq (.reg [⟨(some 4), (.op (.mv (.k (.int .u64 0)))), none⟩, ⟨(some 5), (.op (.mv (.k (.int .i64 6)))), none⟩])
  .ret)
  (.seq (.reg [⟨(some 28), (.op (.mv (.t 6))), none⟩, ⟨(some 29), (.op (.bin .geq (.t 28) (.k (.int .i64 0)))), none⟩, ⟨(some 27), (.op (.mv (.t 29))), none⟩])
  (.cond (.t 27) (.seq (.reg [⟨(some 4), (.op (.mv (.k (.int .u64 0)))), none⟩, ⟨(some 5), (.op (.mv (.k (.int .i64 7)))), none⟩])
  .ret)
  .skip)))))))))
  (.seq (.reg [⟨(some 30), (.op (.mv (.t 1))), none⟩, ⟨(some 31), (.op (.mv (.t 7))), none⟩, ⟨(some 32), (.call (.f 237) [(.t 30), (.t 31)]), none⟩, ⟨(some 33), (.op (.extract (.t 32) 0)), none⟩, ⟨(some 34), (.op (.extract (.t 32) 1)), none⟩, ⟨(some 4), (.op (.mv (.t 33))), none⟩, ⟨(some 5), (.op (.mv (.t 34))), none⟩])
  .ret))))
def a250 : AF := ⟨35, [(.t 4), (.t 5)], .code b250, none⟩
theorem ok250 : AFOk Tryz.prog ext 250 a250 := .of Tryz.func250 (by kernel_rfl) (by kernel_rfl) (by kernel_rfl) (by kernel_rfl)
/-! 251: rowlock/rowlockref03.Next -/
def b251 : AC :=
  (.seq (.reg [⟨(some 2), (.op (.mv (.k (.int .u64 0)))), none⟩, ⟨(some 3), (.op (.mv (.k (.int .i64 0)))), none⟩])
  (.seq (.block 0 (.seq (.reg [⟨(some 5), (.op (.mv (.t 0))), none⟩, ⟨(some 6), (.op (.bin .gtr (.t 5) (.k (.int .u64 1099511627776)))), none⟩, ⟨(some 4), (.op (.mv (.t 6))), none⟩])
  (.cond (.t 4) (.seq (.reg [⟨(some 2), (.op (.mv (.k (.int .u64 0)))), none⟩, ⟨(some 3), (.op (.mv (.k (.int .i64 2)))), none⟩])
  .ret)
  (.seq (.reg [⟨(some 8), (.op (.mv (.t 0))), none⟩, ⟨(some 9), (.op (.bin .eql (.t 8) (.k (.int .u64 1099511627776)))), none⟩, ⟨(some 7), (.op (.mv (.t 9))), none⟩])
  (.cond (.t 7) (.seq (.reg [⟨(some 2), (.op (.mv (.k (.int .u64 0)))), none⟩, ⟨(some 3), (.op (.mv (.k (.int .i64 4)))), none⟩])
  .ret)
  .skip)))))
  (.seq (.reg [⟨(some 10), (.op (.mv (.t 0))), none⟩, ⟨(some 11), (.op (.bin .add (.t 10) (.k (.int .u64 1)))), none⟩, ⟨(some 2), (.op (.mv (.t 11))), none⟩, ⟨(some 3), (.op (.mv (.k (.int .i64 0)))), none⟩])
  .ret)))
def a251 : AF := ⟨12, [(.t 2), (.t 3)], .code b251, none⟩
theorem ok251 : AFOk Tryz.prog ext 251 a251 := .of Tryz.func251 (by kernel_rfl) (by kernel_rfl) (by kernel_rfl) (by kernel_rfl)
/-! 252: rowlock/rowlockref03.owner -/
def b252 : AC :=
  (.seq (.reg [⟨(some 2), (.op (.mv (.k (.bool false)))), none⟩])
  (.seq (.reg [⟨(some 3), (.op (.mv (.t 0))), none⟩, ⟨(some 4), (.op (.bin .geq (.t 3) (.k (.int .i64 0)))), none⟩, ⟨(some 5), (.op (.mv (.t 4))), none⟩, ⟨(some 6), (.op (.mv (.t 0))), (some (5, true))⟩, ⟨(some 7), (.op (.bin .lss (.t 6) (.k (.int .i64 4)))), (some (5, true))⟩, ⟨(some 8), (.op (.pick (.t 5) (.t 7) (.k (.bool false)))), none⟩, ⟨(some 2), (.op (.mv (.t 8))), none⟩])
  .ret))
def a252 : AF := ⟨9, [(.t 2)], .code b252, none⟩
theorem ok252 : AFOk Tryz.prog ext 252 a252 := .of Tryz.func252 (by kernel_rfl) (by kernel_rfl) (by kernel_rfl) (by kernel_rfl)
/-! 253: rowlock/rowlockref03.Free -/
def b253 : AC :=
  (.seq (.reg [⟨(some 2), (.op (.mv (.k (.int .u64 0)))), none⟩, ⟨(some 3), (.op (.mv (.k (.int .i64 0)))), none⟩])
  (.seq (.seq (.reg [⟨(some 4), (.op (.mv (.t 0))), none⟩, ⟨(some 5), (.op (.bin .gtr (.t 4) (.k (.int .u64 1099511627776)))), none⟩])
  (.cond (.t 5) (.seq (.reg [⟨(some 2), (.op (.mv (.k (.int .u64 0)))), none⟩, ⟨(some 3), (.op (.mv (.k (.int .i64 2)))), none⟩])
  .ret)
  .skip))
  (.seq (.reg [⟨(some 6), (.op (.mv (.t 0))), none⟩, ⟨(some 7), (.op (.bin .mul (.t 6) (.k (.int .u64 32)))), none⟩, ⟨(some 2), (.op (.mv (.t 7))), none⟩, ⟨(some 3), (.op (.mv (.k (.int .i64 0)))), none⟩])
  .ret)))
def a253 : AF := ⟨8, [(.t 2), (.t 3)], .code b253, none⟩
theorem ok253 : AFOk Tryz.prog ext 253 a253 := .of Tryz.func253 (by kernel_rfl) (by kernel_rfl) (by kernel_rfl) (by kernel_rfl)
/-! 255: rowlock/lockword.said -/
def b255 : AC :=
  (.seq (.reg [⟨(some 1), (.op (.box 209 (.t 0))), none⟩, ⟨(some 2), (.op (.mv (.k (.int .u64 0)))), none⟩, ⟨(some 3), (.op (.mv (.k (.int .i64 0)))), none⟩])
  (.seq (.seq (.reg [⟨(some 4), (.op (.loadN 2 (.t 1))), none⟩, ⟨(some 5), (.call (.f 205) [(.t 4)]), none⟩, ⟨(some 6), (.op (.un .not (.t 5))), none⟩])
  (.cond (.t 6) (.seq (.reg [⟨(some 2), (.op (.mv (.k (.int .u64 0)))), none⟩, ⟨(some 3), (.op (.mv (.k (.int .i64 2)))), none⟩])
  .ret)
  .skip))
  (.seq (.reg [⟨(some 7), (.op (.loadN 2 (.t 1))), none⟩, ⟨(some 8), (.call (.f 258) [(.t 7)]), none⟩, ⟨(some 2), (.op (.mv (.t 8))), none⟩, ⟨(some 3), (.op (.mv (.k (.int .i64 0)))), none⟩])
  .ret)))
def a255 : AF := ⟨9, [(.t 2), (.t 3)], .code b255, none⟩
theorem ok255 : AFOk Tryz.prog ext 255 a255 := .of Tryz.func255 (by kernel_rfl) (by kernel_rfl) (by kernel_rfl) (by kernel_rfl)
/-! 256: rowlock/lockword.Next -/
def b256 : AC :=
  (.seq (.reg [⟨(some 2), (.op (.mv (.k (.int .u64 0)))), none⟩, ⟨(some 3), (.op (.mv (.k (.int .i64 0)))), none⟩])
  (.seq (.seq (.reg [⟨(some 4), (.op (.mv (.t 0))), none⟩, ⟨(some 5), (.op (.bin .gtr (.t 4) (.k (.int .u64 1099511627776)))), none⟩])
  (.cond (.t 5) (.seq (.reg [⟨(some 2), (.op (.mv (.k (.int .u64 0)))), none⟩, ⟨(some 3), (.op (.mv (.k (.int .i64 2)))), none⟩])
  .ret)
  .skip))
  (.seq (.seq (.reg [⟨(some 6), (.op (.mv (.t 0))), none⟩, ⟨(some 7), (.op (.bin .eql (.t 6) (.k (.int .u64 1099511627776)))), none⟩])
  (.cond (.t 7) (.seq (.reg [⟨(some 2), (.op (.mv (.k (.int .u64 0)))), none⟩, ⟨(some 3), (.op (.mv (.k (.int .i64 4)))), none⟩])
  .ret)
  .skip))
  (.seq (.reg [⟨(some 8), (.op (.mv (.t 0))), none⟩, ⟨(some 9), (.op (.bin .add (.t 8) (.k (.int .u64 1)))), none⟩, ⟨(some 2), (.op (.mv (.t 9))), none⟩, ⟨(some 3), (.op (.mv (.k (.int .i64 0)))), none⟩])
  .ret))))
def a256 : AF := ⟨10, [(.t 2), (.t 3)], .code b256, none⟩
theorem ok256 : AFOk Tryz.prog ext 256 a256 := .of Tryz.func256 (by kernel_rfl) (by kernel_rfl) (by kernel_rfl) (by kernel_rfl)
/-! 258: (rowlock/lockword.parts).word -/
def b258 : AC :=
  (.seq (.reg [⟨(some 1), (.op (.box 209 (.t 0))), none⟩, ⟨(some 2), (.op (.mv (.k (.int .u64 0)))), none⟩])
  (.seq (.reg [⟨(some 4), (.op (.faddr 1 (.t 1))), none⟩, ⟨(some 5), (.op (.load (.t 4))), none⟩, ⟨(some 6), (.op (.bin .shl (.t 5) (.k (.int .u64 5)))), none⟩, ⟨(some 3), (.op (.mv (.t 6))), none⟩])
  (.seq (.seq (.reg [⟨(some 7), (.op (.faddr 0 (.t 1))), none⟩, ⟨(some 8), (.op (.load (.t 7))), none⟩, ⟨(some 9), (.op (.bin .neq (.t 8) (.k (.int .i64 (-1))))), none⟩])
  (.cond (.t 9) (.reg [⟨(some 10), (.op (.mv (.t 3))), none⟩, ⟨(some 11), (.op (.faddr 0 (.t 1))), none⟩, ⟨(some 12), (.op (.load (.t 11))), none⟩, ⟨(some 13), (.op (.conv (.int .u64) (.t 12))), none⟩, ⟨(some 14), (.op (.bin .shl (.t 13) (.k (.int .u64 1)))), none⟩, ⟨(some 15), (.op (.bin .or (.t 14) (.k (.int .u64 1)))), none⟩, ⟨(some 16), (.op (.bin .or (.t 10) (.t 15))), none⟩, ⟨(some 3), (.op (.mv (.t 16))), none⟩])
  .skip))
  (.seq (.reg [⟨(some 17), (.op (.mv (.t 3))), none⟩, ⟨(some 2), (.op (.mv (.t 17))), none⟩])
  .ret))))
def a258 : AF := ⟨18, [(.t 2)], .code b258, none⟩
theorem ok258 : AFOk Tryz.prog ext 258 a258 := .of Tryz.func258 (by kernel_rfl) (by kernel_rfl) (by kernel_rfl) (by kernel_rfl)
def forms : FuncId → Option AF
  | 3 => some a3
  | 4 => some a4
  | 5 => some a5
  | 9 => some a9
  | 10 => some a10
  | 11 => some a11
  | 12 => some a12
  | 13 => some a13
  | 14 => some a14
  | 15 => some a15
  | 17 => some a17
  | 18 => some a18
  | 19 => some a19
  | 20 => some a20
  | 21 => some a21
  | 22 => some a22
  | 24 => some a24
  | 25 => some a25
  | 27 => some a27
  | 29 => some a29
  | 30 => some a30
  | 33 => some a33
  | 37 => some a37
  | 38 => some a38
  | 39 => some a39
  | 40 => some a40
  | 41 => some a41
  | 42 => some a42
  | 43 => some a43
  | 44 => some a44
  | 45 => some a45
  | 46 => some a46
  | 47 => some a47
  | 48 => some a48
  | 49 => some a49
  | 50 => some a50
  | 51 => some a51
  | 52 => some a52
  | 53 => some a53
  | 54 => some a54
  | 55 => some a55
  | 56 => some a56
  | 57 => some a57
  | 58 => some a58
  | 64 => some a64
  | 97 => some a97
  | 98 => some a98
  | 102 => some a102
  | 103 => some a103
  | 104 => some a104
  | 105 => some a105
  | 106 => some a106
  | 107 => some a107
  | 108 => some a108
  | 109 => some a109
  | 110 => some a110
  | 111 => some a111
  | 112 => some a112
  | 113 => some a113
  | 114 => some a114
  | 115 => some a115
  | 116 => some a116
  | 131 => some a131
  | 144 => some a144
  | 148 => some a148
  | 149 => some a149
  | 150 => some a150
  | 151 => some a151
  | 152 => some a152
  | 153 => some a153
  | 154 => some a154
  | 155 => some a155
  | 156 => some a156
  | 157 => some a157
  | 158 => some a158
  | 159 => some a159
  | 160 => some a160
  | 161 => some a161
  | 162 => some a162
  | 163 => some a163
  | 164 => some a164
  | 165 => some a165
  | 166 => some a166
  | 176 => some a176
  | 177 => some a177
  | 178 => some a178
  | 201 => some a201
  | 202 => some a202
  | 203 => some a203
  | 204 => some a204
  | 205 => some a205
  | 206 => some a206
  | 207 => some a207
  | 208 => some a208
  | 209 => some a209
  | 210 => some a210
  | 211 => some a211
  | 212 => some a212
  | 213 => some a213
  | 214 => some a214
  | 215 => some a215
  | 216 => some a216
  | 217 => some a217
  | 218 => some a218
  | 219 => some a219
  | 230 => some a230
  | 234 => some a234
  | 237 => some a237
  | 238 => some a238
  | 239 => some a239
  | 240 => some a240
  | 241 => some a241
  | 242 => some a242
  | 243 => some a243
  | 244 => some a244
  | 245 => some a245
  | 246 => some a246
  | 249 => some a249
  | 250 => some a250
  | 251 => some a251
  | 252 => some a252
  | 253 => some a253
  | 255 => some a255
  | 256 => some a256
  | 258 => some a258
  | _ => none
theorem forms3 : forms 3 = some a3 := rfl
theorem forms4 : forms 4 = some a4 := rfl
theorem forms5 : forms 5 = some a5 := rfl
theorem forms9 : forms 9 = some a9 := rfl
theorem forms10 : forms 10 = some a10 := rfl
theorem forms11 : forms 11 = some a11 := rfl
theorem forms12 : forms 12 = some a12 := rfl
theorem forms13 : forms 13 = some a13 := rfl
theorem forms14 : forms 14 = some a14 := rfl
theorem forms15 : forms 15 = some a15 := rfl
theorem forms17 : forms 17 = some a17 := rfl
theorem forms18 : forms 18 = some a18 := rfl
theorem forms19 : forms 19 = some a19 := rfl
theorem forms20 : forms 20 = some a20 := rfl
theorem forms21 : forms 21 = some a21 := rfl
theorem forms22 : forms 22 = some a22 := rfl
theorem forms24 : forms 24 = some a24 := rfl
theorem forms25 : forms 25 = some a25 := rfl
theorem forms27 : forms 27 = some a27 := rfl
theorem forms29 : forms 29 = some a29 := rfl
theorem forms30 : forms 30 = some a30 := rfl
theorem forms33 : forms 33 = some a33 := rfl
theorem forms37 : forms 37 = some a37 := rfl
theorem forms38 : forms 38 = some a38 := rfl
theorem forms39 : forms 39 = some a39 := rfl
theorem forms40 : forms 40 = some a40 := rfl
theorem forms41 : forms 41 = some a41 := rfl
theorem forms42 : forms 42 = some a42 := rfl
theorem forms43 : forms 43 = some a43 := rfl
theorem forms44 : forms 44 = some a44 := rfl
theorem forms45 : forms 45 = some a45 := rfl
theorem forms46 : forms 46 = some a46 := rfl
theorem forms47 : forms 47 = some a47 := rfl
theorem forms48 : forms 48 = some a48 := rfl
theorem forms49 : forms 49 = some a49 := rfl
theorem forms50 : forms 50 = some a50 := rfl
theorem forms51 : forms 51 = some a51 := rfl
theorem forms52 : forms 52 = some a52 := rfl
theorem forms53 : forms 53 = some a53 := rfl
theorem forms54 : forms 54 = some a54 := rfl
theorem forms55 : forms 55 = some a55 := rfl
theorem forms56 : forms 56 = some a56 := rfl
theorem forms57 : forms 57 = some a57 := rfl
theorem forms58 : forms 58 = some a58 := rfl
theorem forms64 : forms 64 = some a64 := rfl
theorem forms97 : forms 97 = some a97 := rfl
theorem forms98 : forms 98 = some a98 := rfl
theorem forms102 : forms 102 = some a102 := rfl
theorem forms103 : forms 103 = some a103 := rfl
theorem forms104 : forms 104 = some a104 := rfl
theorem forms105 : forms 105 = some a105 := rfl
theorem forms106 : forms 106 = some a106 := rfl
theorem forms107 : forms 107 = some a107 := rfl
theorem forms108 : forms 108 = some a108 := rfl
theorem forms109 : forms 109 = some a109 := rfl
theorem forms110 : forms 110 = some a110 := rfl
theorem forms111 : forms 111 = some a111 := rfl
theorem forms112 : forms 112 = some a112 := rfl
theorem forms113 : forms 113 = some a113 := rfl
theorem forms114 : forms 114 = some a114 := rfl
theorem forms115 : forms 115 = some a115 := rfl
theorem forms116 : forms 116 = some a116 := rfl
theorem forms131 : forms 131 = some a131 := rfl
theorem forms144 : forms 144 = some a144 := rfl
theorem forms148 : forms 148 = some a148 := rfl
theorem forms149 : forms 149 = some a149 := rfl
theorem forms150 : forms 150 = some a150 := rfl
theorem forms151 : forms 151 = some a151 := rfl
theorem forms152 : forms 152 = some a152 := rfl
theorem forms153 : forms 153 = some a153 := rfl
theorem forms154 : forms 154 = some a154 := rfl
theorem forms155 : forms 155 = some a155 := rfl
theorem forms156 : forms 156 = some a156 := rfl
theorem forms157 : forms 157 = some a157 := rfl
theorem forms158 : forms 158 = some a158 := rfl
theorem forms159 : forms 159 = some a159 := rfl
theorem forms160 : forms 160 = some a160 := rfl
theorem forms161 : forms 161 = some a161 := rfl
theorem forms162 : forms 162 = some a162 := rfl
theorem forms163 : forms 163 = some a163 := rfl
theorem forms164 : forms 164 = some a164 := rfl
theorem forms165 : forms 165 = some a165 := rfl
theorem forms166 : forms 166 = some a166 := rfl
theorem forms176 : forms 176 = some a176 := rfl
theorem forms177 : forms 177 = some a177 := rfl
theorem forms178 : forms 178 = some a178 := rfl
theorem forms201 : forms 201 = some a201 := rfl
theorem forms202 : forms 202 = some a202 := rfl
theorem forms203 : forms 203 = some a203 := rfl
theorem forms204 : forms 204 = some a204 := rfl
theorem forms205 : forms 205 = some a205 := rfl
theorem forms206 : forms 206 = some a206 := rfl
theorem forms207 : forms 207 = some a207 := rfl
theorem forms208 : forms 208 = some a208 := rfl
theorem forms209 : forms 209 = some a209 := rfl
theorem forms210 : forms 210 = some a210 := rfl
theorem forms211 : forms 211 = some a211 := rfl
theorem forms212 : forms 212 = some a212 := rfl
theorem forms213 : forms 213 = some a213 := rfl
theorem forms214 : forms 214 = some a214 := rfl
theorem forms215 : forms 215 = some a215 := rfl
theorem forms216 : forms 216 = some a216 := rfl
theorem forms217 : forms 217 = some a217 := rfl
theorem forms218 : forms 218 = some a218 := rfl
theorem forms219 : forms 219 = some a219 := rfl
theorem forms230 : forms 230 = some a230 := rfl
theorem forms234 : forms 234 = some a234 := rfl
theorem forms237 : forms 237 = some a237 := rfl
theorem forms238 : forms 238 = some a238 := rfl
theorem forms239 : forms 239 = some a239 := rfl
theorem forms240 : forms 240 = some a240 := rfl
theorem forms241 : forms 241 = some a241 := rfl
theorem forms242 : forms 242 = some a242 := rfl
theorem forms243 : forms 243 = some a243 := rfl
theorem forms244 : forms 244 = some a244 := rfl
theorem forms245 : forms 245 = some a245 := rfl
theorem forms246 : forms 246 = some a246 := rfl
theorem forms249 : forms 249 = some a249 := rfl
theorem forms250 : forms 250 = some a250 := rfl
theorem forms251 : forms 251 = some a251 := rfl
theorem forms252 : forms 252 = some a252 := rfl
theorem forms253 : forms 253 = some a253 := rfl
theorem forms255 : forms 255 = some a255 := rfl
theorem forms256 : forms 256 = some a256 := rfl
theorem forms258 : forms 258 = some a258 := rfl
set_option maxHeartbeats 4000000 in
theorem forms_ok : ∀ f af, forms f = some af → AFOk Tryz.prog ext f af := by
  intro f af h
  unfold forms at h
  split at h
  · cases h; exact ok3
  · cases h; exact ok4
  · cases h; exact ok5
  · cases h; exact ok9
  · cases h; exact ok10
  · cases h; exact ok11
  · cases h; exact ok12
  · cases h; exact ok13
  · cases h; exact ok14
  · cases h; exact ok15
  · cases h; exact ok17
  · cases h; exact ok18
  · cases h; exact ok19
  · cases h; exact ok20
  · cases h; exact ok21
  · cases h; exact ok22
  · cases h; exact ok24
  · cases h; exact ok25
  · cases h; exact ok27
  · cases h; exact ok29
  · cases h; exact ok30
  · cases h; exact ok33
  · cases h; exact ok37
  · cases h; exact ok38
  · cases h; exact ok39
  · cases h; exact ok40
  · cases h; exact ok41
  · cases h; exact ok42
  · cases h; exact ok43
  · cases h; exact ok44
  · cases h; exact ok45
  · cases h; exact ok46
  · cases h; exact ok47
  · cases h; exact ok48
  · cases h; exact ok49
  · cases h; exact ok50
  · cases h; exact ok51
  · cases h; exact ok52
  · cases h; exact ok53
  · cases h; exact ok54
  · cases h; exact ok55
  · cases h; exact ok56
  · cases h; exact ok57
  · cases h; exact ok58
  · cases h; exact ok64
  · cases h; exact ok97
  · cases h; exact ok98
  · cases h; exact ok102
  · cases h; exact ok103
  · cases h; exact ok104
  · cases h; exact ok105
  · cases h; exact ok106
  · cases h; exact ok107
  · cases h; exact ok108
  · cases h; exact ok109
  · cases h; exact ok110
  · cases h; exact ok111
  · cases h; exact ok112
  · cases h; exact ok113
  · cases h; exact ok114
  · cases h; exact ok115
  · cases h; exact ok116
  · cases h; exact ok131
  · cases h; exact ok144
  · cases h; exact ok148
  · cases h; exact ok149
  · cases h; exact ok150
  · cases h; exact ok151
  · cases h; exact ok152
  · cases h; exact ok153
  · cases h; exact ok154
  · cases h; exact ok155
  · cases h; exact ok156
  · cases h; exact ok157
  · cases h; exact ok158
  · cases h; exact ok159
  · cases h; exact ok160
  · cases h; exact ok161
  · cases h; exact ok162
  · cases h; exact ok163
  · cases h; exact ok164
  · cases h; exact ok165
  · cases h; exact ok166
  · cases h; exact ok176
  · cases h; exact ok177
  · cases h; exact ok178
  · cases h; exact ok201
  · cases h; exact ok202
  · cases h; exact ok203
  · cases h; exact ok204
  · cases h; exact ok205
  · cases h; exact ok206
  · cases h; exact ok207
  · cases h; exact ok208
  · cases h; exact ok209
  · cases h; exact ok210
  · cases h; exact ok211
  · cases h; exact ok212
  · cases h; exact ok213
  · cases h; exact ok214
  · cases h; exact ok215
  · cases h; exact ok216
  · cases h; exact ok217
  · cases h; exact ok218
  · cases h; exact ok219
  · cases h; exact ok230
  · cases h; exact ok234
  · cases h; exact ok237
  · cases h; exact ok238
  · cases h; exact ok239
  · cases h; exact ok240
  · cases h; exact ok241
  · cases h; exact ok242
  · cases h; exact ok243
  · cases h; exact ok244
  · cases h; exact ok245
  · cases h; exact ok246
  · cases h; exact ok249
  · cases h; exact ok250
  · cases h; exact ok251
  · cases h; exact ok252
  · cases h; exact ok253
  · cases h; exact ok255
  · cases h; exact ok256
  · cases h; exact ok258
  · cases h
theorem hext : ExtOk Tryz.prog ext := .one fun args w => run_callFunc_extern Tryz.func146 (by kernel_rfl) (by kernel_rfl) (by kernel_rfl) (by kernel_rfl) args w
theorem hmix : Tryz.prog.follows .mixedOrders = true := by kernel_rfl
end YtapbabkndhaemaaGreat
end Go.Proofs
